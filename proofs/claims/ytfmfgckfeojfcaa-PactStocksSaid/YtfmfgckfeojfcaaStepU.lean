/- Walks of package pact: Begin. -/
import Derived.Test.YtfmfgckfeojfcaaStepO
import Derived.Test.YtfmfgckfeojfcaaStepQ
import Derived.Test.YtfmfgckfeojfcaaPlainA
set_option linter.unusedSimpArgs false
set_option linter.unusedVariables false
namespace Go.Proofs.Ytfmfgckfeojfcaa
open Go.RowKit Go.Maps Go.ChangeMaps

theorem valid_nil_any {w : World} {L : Lay} {N : Net} (h : Rep w L N) :
    Calls Try.prog 32 #[netPtr L, .slice none 0 0] w fun e w' => e = .returned (.bool false) ∧ Below w.heap.size w w' := by
  have hmk : ∀ A, (Instr.makeMap 61 none).run Try.prog A = .ok (.map (some A.heap.size)) (A.alloc (.map #[] 0)) := run_makeBools
  unfold netPtr
  clear h
  go_enter Try.func32, Try.ntmps32
  go_wp2
  go_loopw [12] (fun i wr => i = .int .i64 0 ∧ wr = w.alloc (.map #[] 0)) (fun i _ => 0)
  case atStart => exact ⟨rfl, rfl⟩
  case round =>
    obtain ⟨rfl, rfl⟩ := hrel
    go_wp2
    all_goals (go_ret; exact ⟨rfl, (Below.refl _ w).alloc (Nat.le_refl _) _⟩)

theorem Moved.setCount {w w1 : World} {L : Lay} {N N1 : Net} (h : Moved w L N w1 L N) {c : Int} (hN1 : N1 = { N with count := c }) : Moved w L N (w1.setCell ⟨L.at_ .net, 2, none⟩ (.int .i64 c)) L N1 := by
  subst hN1
  refine ⟨h.rep.setCount c, h.only.setCell _ _ (.inl ⟨.net, trivial, rfl⟩), rfl, rfl, fun b ⟨t, ht, e⟩ => .inl ⟨t, ?_, e⟩, fun b hb => .inl hb⟩
  cases t <;> exact ht

/-- The deal is laid; the sites are told. -/
def TellAt (w : World) (L : Lay) (N N1 : Net) (i : Nat) (s : Site) (pb cap : Nat) (ps : List Move) (W : World) : Prop :=
  W.cell? ⟨L.at_ .net, 2, none⟩ = some (.int .i64 (N.count + 1)) ∧ Calls Try.prog 34 #[netPtr L, .int .i64 i, .int .i64 1, .int .i64 (N.count + 1), .slice (some ⟨pb, 0, none⟩) ps.length cap, .func (.func 35) #[] #[]] W fun e w' =>
    e = .returned (.tuple #[]) ∧ Moves w L N w' ((N1.setSite i { s with opened := AL.put (N.count + 1) ⟨ps, []⟩ s.opened }).tell i 1 (N.count + 1) ps nobody) ∧ w'.cell? ⟨L.at_ .net, 2, none⟩ = some (.int .i64 (N.count + 1))
/-- What is left to Begin, at the world where its count is written. -/
def BeginAt (w : World) (L : Lay) (N N1 : Net) (i : Nat) (s : Site) (pb cap : Nat) (ps : List Move) (w2 : World) : Prop :=
  w2.cell? ⟨L.at_ .net, 2, none⟩ = some (.int .i64 (N.count + 1)) ∧ w2.cell? ⟨L.at_ .sites, i * 7 + 6, none⟩ = some (.map (some (L.at_ (.deals false i)))) ∧ L.at_ .net < w2.heap.size ∧ L.at_ .sites < w2.heap.size ∧
  ∀ A, A = w2.drew ∨ A = (w2.alloc (.map #[] 0)).drew → Calls Try.prog 33 #[.slice (some ⟨pb, 0, none⟩) ps.length cap] A fun e w5 => ∃ (pb5 cap5 : Nat) (f : Nat → Obj), e = .returned (.slice (some ⟨pb5, 0, none⟩) ps.length cap5) ∧
    (∀ b, (Instr.mapUpdate 62 (.map (some (L.at_ (.deals false i)))) (.int .i64 (N.count + 1)) (.agg #[.slice (some ⟨pb5, 0, none⟩) ps.length cap5, .map (some b)])).run Try.prog w5 = .ok () (setBlock w5 (L.at_ (.deals false i)) (f b))) ∧
    (∀ b M, (Instr.mapUpdate 62 (.map (some (L.at_ (.deals false i)))) (.int .i64 (N.count + 1)) (.agg #[.slice (some ⟨pb5, 0, none⟩) ps.length cap5, .map (some b)])).run Try.prog (w5.alloc M) = .ok () (setBlock (w5.alloc M) (L.at_ (.deals false i)) (f b))) ∧
    (w5.cell? ⟨L.at_ .net, 2, none⟩ = some (.int .i64 (N.count + 1)) ∧ w5.cell? ⟨L.at_ .sites, i * 7 + 6, none⟩ = some (.map (some (L.at_ (.deals false i)))) ∧ L.at_ .net < w5.heap.size ∧ L.at_ .sites < w5.heap.size) ∧
    (A = w2.drew → TellAt w L N N1 i s pb cap ps (setBlock (w5.alloc (.map #[] 0)) (L.at_ (.deals false i)) (f w5.heap.size))) ∧
    (A = (w2.alloc (.map #[] 0)).drew → TellAt w L N N1 i s pb cap ps (setBlock w5 (L.at_ (.deals false i)) (f w2.heap.size)))

theorem partsRow {w : World} {base : Nat} {v : Value} {ps : List Move} (h : w.ownsRow base 43 2 v ps.length (ps.flatMap Move.cells)) (hv : v ≠ .slice none 0 0) : ∃ pb cap, v = .slice (some ⟨pb, 0, none⟩) ps.length cap ∧ base ≤ pb ∧ PartsAt w (pb, cap) ps := by
  rcases isRow_of_owns h with ⟨e, _⟩ | ⟨g, cap, o, rfl, hg, ho, hr⟩
  · exact absurd e hv
  · exact ⟨g, cap, rfl, hg, o, ho, hr⟩
theorem moves_one {l : List Move} : ∀ u ∈ l.flatMap Move.cells, u.oneCell' = true := by
  intro u hu
  obtain ⟨m, _, hm⟩ := List.mem_flatMap.1 hu
  simp [Move.cells] at hm
  rcases hm with rfl | rfl <;> rfl

theorem Moved.beginAt {w w2 : World} {L : Lay} {N N1 : Net} {i : Nat} {s : Site} {pb cap : Nat} {ps : List Move} (h : Moved w L N w2 L N1) (hok : N.Ok) (hN1 : N1 = { N with count := N.count + 1 }) (hs1 : N1.sites[i]? = some s) (hc : N.count < 256) (hpl : ps.length ≤ 64)
    (hp : PartsAt w2 (pb, cap) ps) (hpm : ¬ Mut L N pb) (hplt : pb < w.heap.size) : BeginAt w L N N1 i s pb cap ps w2 := by
  have hcc := hok.count
  have hlive : Live L N1 (.deals false i) := by simp [Live]; exact siteLt hs1
  have hX : L.at_ (.deals false i) < w2.heap.size := h.rep.mut_lt ⟨_, hlive, rfl⟩
  have hXn : L.at_ .net ≠ L.at_ (.deals false i) := fun e => by have := h.rep.inj .net _ trivial hlive e; cases this
  have hcount : N1.count = N.count + 1 := by rw [hN1]
  have hn2 := h.rep.net2
  rw [hcount] at hn2
  have hw2 := h.only.size
  refine ⟨hn2, h.rep.site6 hs1, h.rep.netLt, h.rep.sitesLt, fun A hA => ?_⟩
  have hAr : Rep A L N1 ∧ PartsAt A (pb, cap) ps ∧ w2.heap.size ≤ A.heap.size ∧ Moved w L N A L N1 := by
    rcases hA with rfl | rfl
    · exact ⟨h.rep.drew, hp.drew, Nat.le_refl _, h.drew⟩
    · exact ⟨(h.rep.alloc _).drew, (hp.alloc _).drew, by simp [World.drew], (h.alloc _).drew⟩
  obtain ⟨hAR, hAP, hAs, hAM⟩ := hAr
  have hcl : ∀ (j : Nat) (u : Value), (ps.flatMap Move.cells)[j]? = some u → A.cell? ⟨pb, j, none⟩ = some u := fun j u hu => by
    obtain ⟨o, ho, hr⟩ := hAP; exact hr.cell ho hu
  refine (cloneMove_any (c := cap) hcl (length_flat fun x _ => Move.cells2 x) moves_one (by omega : ps.length ≤ 4096)).mono ?_
  rintro e w5 ⟨v, rfl, hown, hne, hb⟩
  obtain ⟨pb5, cap5, rfl, hpb5, hpt5⟩ := partsRow hown hne
  have hm5 : Moved w L N w5 L N1 := hAM.below hb
  have hsok := (hok.at (by rw [hN1] at hs1; exact hs1))
  have htx : i64 (N.count + 1) := by unfold i64; omega
  have hnod := rising_nodup (hsok.dealR false)
  have hlen : (s.deals false).length ≤ 1000 := by have := hsok.dealLen hok.count false; omega
  obtain ⟨o, ho, hM⟩ := hm5.rep.dealsAt hs1 false
  have hadd : ∀ b, ∃ o', (∀ W1 : World, W1.heap[L.at_ (.deals false i)]? = some o → (Instr.mapUpdate 62 (.map (some (L.at_ (.deals false i)))) (.int .i64 (N.count + 1)) (.agg #[.slice (some ⟨pb5, 0, none⟩) ps.length cap5, .map (some b)])).run Try.prog W1 = .ok () (setBlock W1 (L.at_ (.deals false i)) o')) ∧
      ∀ W1, Moved w L N W1 L N1 → W1.heap[b]? = some (.map #[] 0) → ¬ Mut L N1 b → ¬ Fix L N1 b → w.heap.size ≤ b → PartsAt W1 (pb5, cap5) ps → ¬ Mut L N1 pb5 → pb5 ≠ b → (Fix L N pb5 ∨ w.heap.size ≤ pb5) →
        Moved w L N (setBlock W1 (L.at_ (.deals false i)) o') ((L.put (.done false i (N.count + 1)) b).putParts false i (N.count + 1) (pb5, cap5)) (N1.setSite i (s.withDeals false (AL.put (N.count + 1) ⟨ps, []⟩ (s.deals false)))) := fun b => by
    obtain ⟨o2, o', ho2, hrun, hto⟩ := hm5.addDeal hs1 false htx hnod hlen (pb := pb5) (cap := cap5) (b := b) (ps := ps)
    rw [ho] at ho2; cases ho2
    exact ⟨o', hrun, hto⟩
  obtain ⟨f, hf⟩ := Classical.skolem.1 hadd
  have hX5 : L.at_ (.deals false i) < w5.heap.size := lt_of ho
  have hn5 := hm5.rep.net2
  rw [hcount] at hn5
  have hpn5 : ¬ Mut L N1 pb5 := h.rep.new_mut (by omega)
  have htell : ∀ (W : World) (b : Nat), Moved w L N W L N1 → W.heap[b]? = some (.map #[] 0) → w2.heap.size ≤ b → PartsAt W (pb5, cap5) ps → pb5 ≠ b → PartsAt W (pb, cap) ps → TellAt w L N N1 i s pb cap ps (setBlock W (L.at_ (.deals false i)) (f b)) := by
    intro W b hW hWb hb2 hWp hne2 hWo
    have hmv := (hf b).2 W hW hWb (h.rep.new_mut hb2) (h.rep.new_fix hb2) (by omega) hWp hpn5 hne2 (.inr (by omega))
    have hnet : ((L.put (.done false i (N.count + 1)) b).putParts false i (N.count + 1) (pb5, cap5)).at_ .net = L.at_ .net := Lay.put_other L b (t := .done false i (N.count + 1)) (x := .net) (by simp)
    have hcnt : ∀ W' L' N', Moved w L N W' L' N' → N'.count = N.count + 1 → W'.cell? ⟨L.at_ .net, 2, none⟩ = some (.int .i64 (N.count + 1)) := fun W' L' N' hm e => by
      have := hm.rep.net2
      rw [hm.net, e] at this; exact this
    have hXp : pb ≠ L.at_ (.deals false i) := fun e => hpm ⟨.deals false i, by have := hlive; rw [hN1] at this; exact this, e.symm⟩
    have hpm2 : ¬ Mut ((L.put (.done false i (N.count + 1)) b).putParts false i (N.count + 1) (pb5, cap5)) (N1.setSite i (s.withDeals false (AL.put (N.count + 1) ⟨ps, []⟩ (s.deals false)))) pb := fun hm => by
      rcases hmv.muts pb hm with h1 | h1
      · exact hpm h1
      · omega
    have hcall := tell_any hmv.rep (by show N1.mail.length ≤ 1024; rw [hN1]; exact hok.mail) i 1 (N.count + 1) (hWo.block hXp (f b)) hpm2 hpl 35 #[] nobody call_nobody (fun W L' N' _ x => nobody_any x W)
    unfold netPtr at hcall
    rw [hnet] at hcall
    refine ⟨hcnt _ _ _ hmv (by show N1.count = _; exact hcount), hcall.mono ?_⟩
    rintro e w' ⟨rfl, L', hS⟩
    have hm' := hmv.trans hS.moved
    exact ⟨rfl, ⟨L', hm'⟩, hcnt _ _ _ hm' (by rw [hS.count]; exact hcount)⟩
  refine ⟨pb5, cap5, f, rfl, fun b => (hf b).1 w5 ho, fun b M => (hf b).1 _ ((alloc_other w5 M hX5).trans ho), ⟨hn5, hm5.rep.site6 hs1, hm5.rep.netLt, hm5.rep.sitesLt⟩, fun e => ?_, fun e => ?_⟩
  · have hpb5lt : pb5 < w5.heap.size := by obtain ⟨o, ho, _⟩ := hpt5; exact lt_of ho
    refine htell _ _ (hm5.alloc _) (alloc_same w5 _) (by have := hb.size; omega) (hpt5.alloc _) (by omega) (PartsAt.alloc ?_ _)
    obtain ⟨o9, ho9, hr9⟩ := hAP
    exact ⟨o9, (hb.block _ (lt_of ho9)).trans ho9, hr9⟩
  · subst e
    have hsz : (w2.alloc (.map #[] 0)).drew.heap.size = w2.heap.size + 1 := by simp [World.drew]
    refine htell _ _ hm5 ((hb.block w2.heap.size (by omega)).trans (alloc_same w2 _)) (Nat.le_refl _) hpt5 (by omega) ?_
    obtain ⟨o9, ho9, hr9⟩ := hAP
    exact ⟨o9, (hb.block _ (lt_of ho9)).trans ho9, hr9⟩

set_option maxRecDepth 20000 in
set_option maxHeartbeats 8000000 in
theorem begin_any {w : World} {L : Lay} {N : Net} (h : Rep w L N) (hok : N.Ok) (k : Int) {pb cap : Nat} {ps : List Move} (hp : PartsAt w (pb, cap) ps) (hpm : ¬ Mut L N pb) (hpl : ps.length ≤ 64) :
    Calls Try.prog 18 #[netPtr L, .int .i64 k, .slice (some ⟨pb, 0, none⟩) ps.length cap] w fun e w' => e = .returned (.tuple #[.int .i64 (N.begin_ k ps).2.1, .int .i64 (N.begin_ k ps).2.2]) ∧ Moves w L N w' (N.begin_ k ps).1 := by
  rcases awake_cases h hok k with ⟨i, s, rfl, hs, hd, hA⟩ | ⟨er, hA, her, hC⟩
  · have hup := awake_up h hok.eight hs hd
    have hval := valid_any h hok hp hpl
    have hmv := Moved.refl h
    have HU := Lib.hid hup
    have HV := Lib.hid hval
    cases hvb : N.valid ps with
    | false =>
      have e : N.begin_ i ps = (N, 0, 2) := by unfold Net.begin_; rw [hA]; simp [hvb]
      rw [e]
      have hM := fun w' hb => (hmv.below (w' := w') hb).moves
      have HM := Lib.hid hM
      have HVb := Lib.hid hvb
      clear hA e h hok hs hd hup hval hmv hM hp hpm hvb
      unfold netPtr sitePtr at *
      go_enter Try.func18, Try.ntmps18
      go_wp2_with fail
      refine HU.out.mono ?_
      rintro e w' ⟨rfl, rfl⟩
      go_wp2_with fail
      refine HV.out.mono ?_
      rintro e w' ⟨rfl, hb⟩
      rw [HVb.out]
      have HB := Lib.hid (HM.out _ hb)
      clear hb
      go_wp2
      go_ret2
      exact ⟨rfl, HB.out⟩
    | true =>
      by_cases hc : 256 ≤ N.count
      · have e : N.begin_ i ps = (N, 0, 5) := by unfold Net.begin_; rw [hA]; simp [hvb, hc]
        rw [e]
        have hM := fun w' hb => (⟨(hmv.below (w' := w') hb).moves, (hmv.below (w' := w') hb).rep.net2⟩ : Moves w L N w' N ∧ w'.cell? ⟨L.at_ .net, 2, none⟩ = some (.int .i64 N.count))
        have HM := Lib.hid hM
        have HVb := Lib.hid hvb
        have hc2 : (N.count ≥ 256) := hc
        clear hA e h hok hs hd hup hval hmv hM hp hpm hvb
        unfold netPtr sitePtr at *
        go_enter Try.func18, Try.ntmps18
        go_wp2_with fail
        refine HU.out.mono ?_
        rintro e w' ⟨rfl, rfl⟩
        go_wp2_with fail
        refine HV.out.mono ?_
        rintro e w' ⟨rfl, hb⟩
        rw [HVb.out]
        obtain ⟨hB, c2⟩ := HM.out _ hb
        have HB := Lib.hid hB
        clear hb hB
        go_wp2
        go_ret2
        exact ⟨rfl, HB.out⟩
      · have hcc := hok.count
        obtain ⟨N1, hN1⟩ : ∃ N1 : Net, N1 = { N with count := N.count + 1 } := ⟨_, rfl⟩
        have e : N.begin_ i ps = ((N1.setSite i { s with opened := AL.put (N.count + 1) ⟨ps, []⟩ s.opened }).tell i 1 (N.count + 1) ps nobody, N.count + 1, 0) := by
          unfold Net.begin_; rw [hA, hN1]; simp [hvb, hc]
        rw [e]
        have hvne : ps ≠ [] := (valid_elim hvb).1
        have hs1 : N1.sites[i]? = some s := by rw [hN1]; exact hs
        have hpre : ∀ w1, Below w.heap.size w w1 → ∃ w2, w2 = w1.setCell ⟨L.at_ .net, 2, none⟩ (.int .i64 (N.count + 1)) ∧
            (w1.cell? ⟨L.at_ .net, 2, none⟩ = some (.int .i64 N.count) ∧ w1.frozen? ⟨L.at_ .net, 2, none⟩ = false ∧ L.at_ .net < w1.heap.size) ∧ BeginAt w L N N1 i s pb cap ps w2 := fun w1 hb => by
          have hm1 := hmv.below hb
          refine ⟨_, rfl, ⟨hm1.rep.net2, hm1.rep.netFree 2, hm1.rep.netLt⟩, ?_⟩
          have hm2 : Moved w L N (w1.setCell ⟨L.at_ .net, 2, none⟩ (.int .i64 (N.count + 1))) L N1 := hm1.setCount hN1
          refine hm2.beginAt hok hN1 hs1 (by omega) hpl ?_ hpm (by obtain ⟨o, ho, _⟩ := hp; exact lt_of ho)
          obtain ⟨o, ho, hr⟩ := hp
          exact ⟨o, (setCell_other _ _ _ (fun e => hpm ⟨.net, trivial, e.symm⟩)).trans ((hb.block _ (lt_of ho)).trans ho), hr⟩
        have HPre := Lib.hid hpre
        have HVb := Lib.hid hvb
        have hc2 : ¬ (N.count ≥ 256) := hc
        have hmk : ∀ A, (Instr.makeMap 61 none).run Try.prog A = .ok (.map (some A.heap.size)) (A.alloc (.map #[] 0)) := run_makeBools
        have hcn := call_nobody
        clear hpre hvb hA e hup hval hmv hs hs1 hd hvne hok hp hpm h hN1
        unfold netPtr sitePtr at *
        go_enter Try.func18, Try.ntmps18
        go_wp2_with fail
        refine HU.out.mono ?_
        rintro e w' ⟨rfl, rfl⟩
        go_wp2_with fail
        refine HV.out.mono ?_
        rintro e w1 ⟨rfl, hb⟩
        rw [HVb.out]
        obtain ⟨w2, hw2, ⟨c2, f2, nl⟩, hBA⟩ := HPre.out w1 hb
        obtain ⟨c3, c6, nl2, sl2, hclone⟩ := hBA
        have HW2 := Lib.hid hw2
        have HCl := Lib.hid hclone
        clear hb hw2 hclone
        go_wp2
        rw [← HW2.out]
        clear c2 f2 nl HW2 HPre
        go_region_with (go_at_call 33; refine (HCl.out _ ?_).mono ?_; (first | exact .inl rfl | exact .inr rfl); rintro e w5 ⟨pb5, cap5, f5, rfl, r1, r2, ⟨g1, g2, g3, g4⟩, t1, t2⟩; have T1 := Lib.hid t1; have T2 := Lib.hid t2; clear t1 t2)
        all_goals
          have hT : Hid (TellAt w L N N1 i s pb cap ps (setBlock (w5.alloc (.map #[] 0)) (L.at_ (.deals false i)) (f5 w5.heap.size)) ∨ TellAt w L N N1 i s pb cap ps (setBlock w5 (L.at_ (.deals false i)) (f5 w2.heap.size))) := by
            first | exact Or.inl (T1.out trivial) | exact Or.inr (T2.out trivial)
          clear r1 r2 g1 g2 g3 g4 c3 c6 nl2 sl2 hmk HCl HU HV HVb
          first
          | (obtain ⟨d2, hC⟩ := T1.out trivial
             have HC := Lib.hid hC
             clear T1 T2 hC hT
             go_wp2_with fail
             refine HC.out.mono ?_
             rintro e w6 ⟨rfl, hM6, d6⟩
             have HM6 := Lib.hid hM6
             clear hM6 HC d2
             go_wp2
             go_ret2
             exact ⟨rfl, HM6.out⟩)
          | (obtain ⟨d2, hC⟩ := T2.out trivial
             have HC := Lib.hid hC
             clear T1 T2 hC hT
             go_wp2_with fail
             refine HC.out.mono ?_
             rintro e w6 ⟨rfl, hM6, d6⟩
             have HM6 := Lib.hid hM6
             clear hM6 HC d2
             go_wp2
             go_ret2
             exact ⟨rfl, HM6.out⟩)
  · have e : N.begin_ k ps = (N, 0, er) := by simp [Net.begin_, hA]
    rw [e]
    have hM := Moves.refl h
    have hz : (er == 0) = false := by simpa using her
    have HM := Lib.hid hM
    have HC := Lib.hid hC
    clear hM hC hA e h hok her hp hpm
    unfold netPtr at *
    go_enter Try.func18, Try.ntmps18
    go_wp2_with fail
    refine HC.out.mono ?_
    rintro e w' ⟨rfl, rfl⟩
    go_wp2
    go_ret2
    exact ⟨rfl, HM.out⟩
end Go.Proofs.Ytfmfgckfeojfcaa
