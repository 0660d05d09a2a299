/- Walks of package pact: an agreement; how a letter is handled. -/
import Derived.Test.YtfmfgckfeojfcaaStepH
set_option linter.unusedSimpArgs false
set_option linter.unusedVariables false
namespace Go.Proofs.Ytfmfgckfeojfcaa
open Go.RowKit Go.Maps Go.ChangeMaps

/-- 's.open[k] = deal{parts, map[int]bool{}}', the map's block b laid ahead. -/
theorem Moved.addDeal {w W : World} {L L1 : Lay} {N N1 : Net} {i : Nat} {s : Site} (h : Moved w L N W L1 N1) (hs : N1.sites[i]? = some s) (g : Bool) {k : Int} (hk : i64 k) (hn : (AL.keys (s.deals g)).Nodup) (hlen : (s.deals g).length ≤ 1000)
    {pb cap b : Nat} {ps : List Move} : ∃ o o', W.heap[L1.at_ (.deals g i)]? = some o ∧
    (∀ W1 : World, W1.heap[L1.at_ (.deals g i)]? = some o → (Instr.mapUpdate 62 (.map (some (L1.at_ (.deals g i)))) (.int .i64 k) (.agg #[.slice (some ⟨pb, 0, none⟩) ps.length cap, .map (some b)])).run Try.prog W1 = .ok () (setBlock W1 (L1.at_ (.deals g i)) o')) ∧
    ∀ W1, Moved w L N W1 L1 N1 → W1.heap[b]? = some (.map #[] 0) → ¬ Mut L1 N1 b → ¬ Fix L1 N1 b → w.heap.size ≤ b → PartsAt W1 (pb, cap) ps → ¬ Mut L1 N1 pb → pb ≠ b → (Fix L N pb ∨ w.heap.size ≤ pb) →
      Moved w L N (setBlock W1 (L1.at_ (.deals g i)) o') ((L1.put (.done g i k) b).putParts g i k (pb, cap)) (N1.setSite i (s.withDeals g (AL.put k ⟨ps, []⟩ (s.deals g)))) := by
  obtain ⟨o, ho, hM⟩ := h.rep.dealsAt hs g
  obtain ⟨o', hM', hrun⟩ := hM.update (b := L1.at_ (.deals g i)) keyI encI_inj Try.underlying62 (okI_of hk) (.agg #[.slice (some ⟨pb, 0, none⟩) ps.length cap, .map (some b)]) (by simp [dealsV, maxLen]; omega) (List.Perm.refl _)
  refine ⟨o, o', ho, hrun, fun W1 h1 hb hbm hbf hbw hpt hpm hpb hpf => ?_⟩
  have hr := h1.rep.newDeal hs g k hn hb mapObj_empty hbm hbf hpt hpm hpb hM' (List.Perm.refl _)
  have hput : ∀ x, AL.get? x (AL.put k (⟨ps, []⟩ : Deal) (s.deals g)) = if x = k then some ⟨ps, []⟩ else AL.get? x (s.deals g) := fun x => by
    by_cases e : x = k
    · subst e; rw [AL.get?_put_same _ _ hn, if_pos rfl]
    · rw [AL.get?_put_other e _ hn, if_neg e]
  have hdl : ∀ g' j x, (N1.setSite i (s.withDeals g (AL.put k ⟨ps, []⟩ (s.deals g)))).deal g' j x = if g' = g ∧ j = i ∧ x = k then some ⟨ps, []⟩ else N1.deal g' j x := fun g' j x => by
    rw [setSite_deal hs]
    by_cases e1 : j = i
    · subst e1
      rw [if_pos rfl, withDeals_deals]
      by_cases e2 : g' = g
      · subst e2
        rw [if_pos rfl, hput]
        by_cases e3 : x = k
        · subst e3; simp
        · simp [e3, deal_at hs]
      · simp [e2, deal_at hs]
    · simp [e1]
  refine ⟨hr, h1.only.setBlock _ o' (h1.muts _ ⟨.deals g i, by simp [Live]; exact siteLt hs, rfl⟩), ?_, ?_, fun b' hb' => ?_, fun b' hb' => ?_⟩
  · exact (Lay.put_other L1 b (t := .done g i k) (x := .net) (by simp)).trans h1.net
  · exact (Lay.put_other L1 b (t := .done g i k) (x := .sites) (by simp)).trans h1.sites
  · obtain ⟨t, ht, rfl⟩ := hb'
    by_cases e : t = .done g i k
    · subst e
      have : ((L1.put (.done g i k) b).putParts g i k (pb, cap)).at_ (.done g i k) = b := Lay.put_same L1 _ b
      rw [this]; exact .inr hbw
    · have : ((L1.put (.done g i k) b).putParts g i k (pb, cap)).at_ t = L1.at_ t := Lay.put_other L1 b e
      rw [this]
      refine h1.muts _ ⟨t, ?_, rfl⟩
      cases t <;> simp only [Live, setSite_length, hdl] at ht ⊢ <;> first | exact ht | skip
      split at ht
      · rename_i e'; obtain ⟨rfl, rfl, rfl⟩ := e'; exact absurd rfl e
      · exact ht
  · obtain ⟨g', j, x, d', hd', rfl⟩ := hb'
    rw [hdl] at hd'
    split at hd'
    · rename_i e; obtain ⟨rfl, rfl, rfl⟩ := e
      have : ((L1.put (.done g' j x) b).putParts g' j x (pb, cap)).pb g' j x = (pb, cap) := by simp [Lay.putParts]
      rw [this]; exact hpf
    · rename_i e
      have : ((L1.put (.done g i k) b).putParts g i k (pb, cap)).pb g' j x = L1.pb g' j x := by simp [Lay.putParts, Lay.put, e]
      rw [this]; exact h1.fixs _ ⟨g', j, x, d', hd', rfl⟩

theorem wpList_mapUpdate_to {P : Program} {w : World} {ops : Array Oper} {rest : List Oper} {o : Oper} {a : Act} {Q : Exit → Act → World → Prop} (hg : o.guard = none) (m x v : Operand) (t : TypeId) (hop : o.op = Op.mapUpdate t m x v)
    {b : Nat} {key val : Value} (hm : a.eval m = .map (some b)) (hx : a.eval x = key) (hv : a.eval v = val) (w' : World) (hrun : (Instr.mapUpdate t (.map (some b)) key val).run P w = .ok () w') (hK : wpList P ops Q rest (a.put o.dst undef) w') : wpList P ops Q (o :: rest) a w := by
  refine wpList_plain hg fun K' hK' => ?_
  unfold Oper.wp
  simp [execOp, hop, hm, hx, hv, hrun, Result.andThen]
  exact hK' _ _ hK

theorem run_makeBools (w : World) : (Instr.makeMap 61 none).run Try.prog w = .ok (.map (some w.heap.size)) (w.alloc (.map #[] 0)) := by kernel_rfl

set_option maxRecDepth 20000 in
set_option maxHeartbeats 1000000 in
theorem agreed_any {w : World} {L : Lay} {N : Net} (h : Rep w L N) (hok : N.Ok) {i : Nat} {s : Site} (hs : N.sites[i]? = some s) {m : Mail} (hm : m.Ok N.sites.length N.count) :
    Calls Try.prog 56 #[netPtr L, sitePtr L i, m.val] w fun e w' => e = .returned (.tuple #[]) ∧ Moves w L N w' (N.agreed i s m) := by
  have hsok := hok.at hs
  have hmail := hok.mail
  have htx := hm.txI hok.count.2
  have hsrc := hm.srcI hok.eight
  obtain ⟨w1, hw1⟩ : ∃ w1, w1 = w.alloc (.cells #[.int .i64 m.src, .int .i64 m.dst, .int .i64 m.kind, .int .i64 m.tx, .int .i64 m.n] 77) := ⟨_, rfl⟩
  have hbox : BoxM w1 w.heap.size m := hw1 ▸ BoxM.new w m
  have hbm : ¬ Mut L N w.heap.size := h.new_mut (Nat.le_refl _)
  have hmv : Moved w L N w1 L N := hw1 ▸ (Moved.refl h).alloc _
  have hbc := hbox.cells
  have c6 := hmv.rep.site6 hs
  have hslt := hmv.rep.sitesLt
  obtain ⟨a, n, c, mb, hfound, o, ho, hlook⟩ := hmv.rep.lookDeal hs false htx
  have hl := looks ho hlook
  have HW1 := Lib.hid hw1
  have HBM := Lib.hid hbm
  cases hp : AL.has m.tx (Site.deals false s) with
  | false =>
    have hrem := fun A => remind_any (hmv.alloc A).drew.rep hok hs hm
    have hfin : ∀ A w', Moves (w1.alloc A).drew L N w' (N.remind s m) → Moves w L N w' (N.agreed i s m) := fun A w' ⟨L', hS⟩ => by
      unfold Net.agreed; rw [has_get_none (m := s.opened) hp]
      exact ⟨L', (hmv.alloc _).drew.trans hS⟩
    have HF := Lib.hid hfin
    rw [hp] at hl
    unfold netPtr sitePtr Mail.val at *
    clear hlook hw1 h ho hbm hp hfin hfound
    go_enter Try.func56, Try.ntmps56
    go_wp2
    rw [← HW1.out]
    generalize w.heap.size = bm at hbox hbc HBM ⊢
    clear HW1
    go_region
    go_wp2_with fail
    refine (hrem _).mono ?_
    rintro e w' ⟨rfl, hS⟩
    have HF2 := Lib.hid (HF.out _ _ hS)
    clear hS hrem
    go_wp2
    go_end0
    exact ⟨rfl, HF2.out⟩
  | true =>
    obtain ⟨d, hd⟩ := has_get hp
    obtain ⟨rfl, rfl, rfl, rfl⟩ := hfound d hd
    have hdN := deal_of hs hd
    have hdok := hok.dealOk hs hd
    have hpt := hmv.rep.parts _ _ _ _ hdN
    have hpm : ¬ Mut L N (L.pb false i m.tx).1 := fun ⟨t, ht, e⟩ => h.apart _ _ _ _ t hdN ht e
    have hpf : Fix L N (L.pb false i m.tx).1 := ⟨false, i, m.tx, d, hdN, rfl⟩
    rw [hp] at hl
    have HD := Lib.hid hd
    have HDN := Lib.hid hdN
    have HPt := Lib.hid hpt
    have HPm := Lib.hid hpm
    have HPf := Lib.hid hpf
    unfold netPtr sitePtr Mail.val
    clear hlook hw1 h ho hbm hp hfound hd hdN hpt hpm hpf
    go_enter Try.func56, Try.ntmps56
    go_wp2
    rw [← HW1.out]
    generalize w.heap.size = bm at hbox hbc HBM ⊢
    clear HW1
    go_region
    go_wp2_with fail
    refine (has_any ((HPt.out.alloc _).drew) (by have := hdok.len; omega) _ m.src).mono ?_
    rintro e w2 ⟨rfl, hb2⟩
    have hmv2 := (hmv.alloc _).drew.below hb2
    have hbox2 := (hbox.alloc _).drew.below hb2
    have hbd2 := (BoxD.of _ _ _ _).below hb2
    have hpt2 : PartsAt w2 ((L.pb false i m.tx).1, (L.pb false i m.tx).2) d.parts := by
      obtain ⟨o9, ho9, hr9⟩ := (HPt.out.alloc _).drew
      exact ⟨o9, (hb2.block _ (lt_of ho9)).trans ho9, hr9⟩
    have hbdm2 : ¬ Mut L N w1.heap.size := hmv.rep.new_mut (Nat.le_refl _)
    generalize w1.heap.size = bd at hbd2 hbdm2 ⊢
    have hn := rising_nodup (hsok.dealR false)
    have hdn := hdok.doneLen hok.eight
    cases hhas : d.has m.src with
    | false =>
      have hear : d.hear m.src = d := by unfold Deal.hear; rw [hhas]; rfl
      obtain ⟨o3, ho3, hM3⟩ := hmv2.rep.doneAt HDN.out
      obtain ⟨w3, rfl⟩ : ∃ w3, w3 = w2 := ⟨_, rfl⟩
      have hmv3 : Moved w L N w3 L (N.setSite i (s.withDeals false (AL.put m.tx (d.hear m.src) (s.deals false)))) := by
        rw [hear, put_self (hsok.dealR false) HD.out, show s.withDeals false (s.deals false) = s from rfl, setSite_self hs]; exact hmv2
      have hbox3 := hbox2
      have hbd3 := hbd2
      have hpt3 := hpt2
      have hparts : (d.hear m.src).parts = d.parts := by rw [hear]
      rw [show setV d.done = setV (d.hear m.src).done from by rw [hear]] at hM3
      clear hear hhas
      have hs3 := setSite_at hs (s.withDeals false (AL.put m.tx (d.hear m.src) (s.deals false)))
      have hbc3 := hbox3.cells
      have hbdc3 := hbd3.cells
      have d6 := hmv3.rep.site6 hs3
      have hslt3 := hmv3.rep.sitesLt
      have hlen4 := fun ty => hM3.len (t := 61) Try.underlying61 w3 ho3 ty
      have hsl : (setV (d.hear m.src).done).length = (d.hear m.src).done.length := by simp [setV]
      rw [hsl] at hlen4
      have hdeals : (s.withDeals false (AL.put m.tx (d.hear m.src) (s.deals false))).deals false = AL.put m.tx (d.hear m.src) (s.deals false) := rfl
      obtain ⟨o5, o5', ho5, hrun5, hto5⟩ := hmv3.dropDeal hs3 false htx (by rw [hdeals]; exact AL.nodup_put hn)
      have ht5 := fun ty => turns ho5 (fun W => hrun5 W ty)
      have hfull0 : (d.hear m.src).full = decide ((d.hear m.src).done.length = d.parts.length) := by unfold Deal.full; rw [hparts]
      have hfin1 : (d.hear m.src).full = false → Moves w L N w3 (N.agreed i s m) := fun hf => by
        unfold Net.agreed; rw [show AL.get? m.tx s.opened = some d from HD.out]; simp only [hf, Bool.false_eq_true, if_false]
        exact hmv3.moves
      have hN4 : ∀ W, Moved w L N W L (N.setSite i (s.withDeals false (AL.put m.tx (d.hear m.src) (s.deals false)))) → Moved w L N (setBlock W (L.at_ (.deals false i)) o5') L (N.setSite i (s.withDeals false (AL.del m.tx (s.deals false)))) := fun W hW => by
        have h1 := hto5 W hW
        rw [setSite_twice, hdeals] at h1
        have h2 : AL.del m.tx (AL.put m.tx (d.hear m.src) (s.deals false)) = AL.del m.tx (s.deals false) := del_put _ _ _
        rw [h2] at h1
        exact h1
      have hfin2 : ∀ w', (d.hear m.src).full = true → Moves w L N w' ((N.setSite i { s with opened := AL.del m.tx s.opened, granted := AL.put m.tx ⟨d.parts, []⟩ s.granted }).tell m.dst 4 m.tx d.parts nobody) → Moves w L N w' (N.agreed i s m) := fun w' hf hS => by
        unfold Net.agreed; rw [show AL.get? m.tx s.opened = some d from HD.out]; simp only [hf, if_true]
        exact hS
      have hbo3 := hbox3.drew.block (i := L.at_ (.deals false i)) (fun e => HBM.out ⟨.deals false i, by simp [Live]; exact siteLt hs, e.symm⟩) o5'
      have hbd3b := hbd3.drew.block (i := L.at_ (.deals false i)) (fun e => hbdm2 ⟨.deals false i, by simp [Live]; exact siteLt hs, e.symm⟩) o5'
      have hpt3b := hpt3.drew.block (i := L.at_ (.deals false i)) (fun e => HPm.out ⟨.deals false i, by simp [Live]; exact siteLt hs, e.symm⟩) o5'
      obtain ⟨w4, hw4, hmv4, hbox4, hbd4, hpt4⟩ : ∃ w4, w4 = setBlock w3.drew (L.at_ (.deals false i)) o5' ∧ Moved w L N w4 L (N.setSite i (s.withDeals false (AL.del m.tx (s.deals false)))) ∧ BoxM w4 bm m ∧
          BoxD w4 bd (some ⟨(L.pb false i m.tx).1, 0, none⟩) d.parts.length (L.pb false i m.tx).2 (some (L.at_ (.done false i m.tx))) ∧ PartsAt w4 ((L.pb false i m.tx).1, (L.pb false i m.tx).2) d.parts := ⟨_, rfl, hN4 _ hmv3.drew, hbo3, hbd3b, hpt3b⟩
      have HF1 := Lib.hid hfin1
      have HF2 := Lib.hid hfin2
      have HF0 := Lib.hid hfull0
      have HW4 := Lib.hid hw4
      have hs4 := setSite_at hs (s.withDeals false (AL.del m.tx (s.deals false)))
      have hbc4 := hbox4.cells
      have hbdc4 := hbd4.cells
      have e5 := hmv4.rep.site5 hs4
      have hslt4 := hmv4.rep.sitesLt
      have hdl4 : (s.withDeals false (AL.del m.tx (s.deals false))).deals true = s.deals true := rfl
      obtain ⟨o6, o6', ho6, hrun6, hto6⟩ := hmv4.addDeal hs4 true htx (by rw [hdl4]; exact rising_nodup (hsok.dealR true)) (by rw [hdl4]; have := hsok.dealLen hok.count true; omega) (pb := (L.pb false i m.tx).1) (cap := (L.pb false i m.tx).2) (b := w4.heap.size) (ps := d.parts)
      have ht6 := turns ho6 hrun6
      have hmk : ∀ A, (Instr.makeMap 61 none).run Try.prog A = .ok (.map (some A.heap.size)) (A.alloc (.map #[] 0)) := run_makeBools
      have hnm : ∀ b, Mut L (N.setSite i (s.withDeals false (AL.del m.tx (s.deals false)))) b → Mut L N b := fun b hb => mut_del hs false _ hb
      have hpb4 : (L.pb false i m.tx).1 ≠ w4.heap.size := by obtain ⟨o9, ho9, _⟩ := hpt4; have := lt_of ho9; omega
      have hmv6 := hto6 ((w4.alloc (.map #[] 0)).drew) (hmv4.alloc _).drew (alloc_same w4 _) (hmv4.rep.new_mut (Nat.le_refl _)) (hmv4.rep.new_fix (Nat.le_refl _)) (by have := hmv4.only.size; omega) (hpt4.alloc _).drew (fun hb => HPm.out (hnm _ hb)) hpb4 (.inl HPf.out)
      have hbox6 := ((hbox4.alloc (.map #[] 0)).drew).block (i := L.at_ (.deals true i)) (fun e => HBM.out ⟨.deals true i, by simp [Live]; exact siteLt hs, e.symm⟩) o6'
      have hbd6 := ((hbd4.alloc (.map #[] 0)).drew).block (i := L.at_ (.deals true i)) (fun e => hbdm2 ⟨.deals true i, by simp [Live]; exact siteLt hs, e.symm⟩) o6'
      have hpt6 := ((hpt4.alloc (.map #[] 0)).drew).block (i := L.at_ (.deals true i)) (fun e => HPm.out ⟨.deals true i, by simp [Live]; exact siteLt hs, e.symm⟩) o6'
      obtain ⟨w6, hw6⟩ : ∃ w6, w6 = setBlock (w4.alloc (.map #[] 0)).drew (L.at_ (.deals true i)) o6' := ⟨_, rfl⟩
      rw [← hw6] at hmv6 hbox6 hbd6 hpt6
      rw [setSite_twice] at hmv6
      have hbc6 := hbox6.cells
      have hbdc6 := hbd6.cells
      have hpm6 : ¬ Mut ((L.put (.done true i m.tx) w4.heap.size).putParts true i m.tx ((L.pb false i m.tx).1, (L.pb false i m.tx).2)) (N.setSite i ((s.withDeals false (AL.del m.tx (s.deals false))).withDeals true (AL.put m.tx ⟨d.parts, []⟩ (s.deals true)))) (L.pb false i m.tx).1 :=
        hmv6.rep.fix_mut ⟨true, i, m.tx, ⟨d.parts, []⟩, by rw [setSite_deal hs, if_pos rfl]; exact AL.get?_put_same _ _ (rising_nodup (hsok.dealR true)), by simp [Lay.putParts]⟩
      have hcall := tell_any hmv6.rep hmail m.dst 4 m.tx hpt6 hpm6 (by have := hdok.len; omega) 35 #[] nobody call_nobody (fun W L' N' _ x => nobody_any x W)
      have hnet6 : ((L.put (.done true i m.tx) w4.heap.size).putParts true i m.tx ((L.pb false i m.tx).1, (L.pb false i m.tx).2)).at_ .net = L.at_ .net := Lay.put_other L w4.heap.size (t := .done true i m.tx) (x := .net) (by simp)
      unfold netPtr at hcall
      rw [hnet6] at hcall
      have HC := Lib.hid hcall
      have HM6 := Lib.hid hmv6
      have HW6 := Lib.hid hw6
      clear hfin1 hfin2 hfull0 hw4 hw6 hmv6 hcall hpm6 hnet6 hmv4 hmv3 hmv2 hmv hl c6 hslt hbc hbox hbox2 hbd2 hb2 hbox3 hbd3 hpt3 hpt3b hbo3 hbd3b hN4 hto5 hrun5 ho5 hto6 hrun6 ho6 hs3 hs4 hsl hdeals hdl4 hnm hpb4 hM3 ho3 hbox4 hbd4 hpt4 hbox6 hbd6 hpt6 hparts hbdm2 hpt2
      by_cases hfl : (d.hear m.src).done.length = d.parts.length
      · have hlb : (((d.hear m.src).done.length : Int) == d.parts.length) = true := by simp; omega
        have HFl : Hid ((d.hear m.src).full = true) := by show _ = true; rw [HF0.out]; simpa using hfl
        clear hfl
        go_wp2
        go_region
        rw [← HW4.out]
        clear ht5 d6 hslt3 hbc3 hbdc3 hlen4
        go_wp2
        go_region
        rw [← HW6.out]
        clear ht6 e5 hslt4 hbc4 hbdc4
        go_wp2_with fail
        refine HC.out.mono ?_
        rintro e w' ⟨rfl, hS⟩
        have HF := Lib.hid (HF2.out w' HFl.out (Moves.after HM6.out hS))
        clear hS
        go_wp2
        exact bodyPost_ret (results_none rfl _ _ _) rfl ⟨rfl, HF.out⟩
      · have hlb : (((d.hear m.src).done.length : Int) == d.parts.length) = false := by simp; omega
        have HFl : Hid ((d.hear m.src).full = false) := by show _ = false; rw [HF0.out]; simpa using hfl
        clear hfl
        go_wp2
        exact bodyPost_ret (results_none rfl _ _ _) rfl ⟨rfl, HF1.out HFl.out⟩
    | true =>
      have hear : d.hear m.src = { d with done := AL.put m.src () d.done } := by unfold Deal.hear; rw [hhas]; rfl
      obtain ⟨o3a, o3, ho3a, hrun3, hM3, hto3⟩ := hmv2.putDone hs false HD.out hn hsrc hdn
      obtain ⟨w3, hw3, hmv3, hbox3, hbd3, hpt3⟩ : ∃ w3, w3 = setBlock w2 (L.at_ (.done false i m.tx)) o3 ∧ Moved w L N w3 L (N.setSite i (s.withDeals false (AL.put m.tx (d.hear m.src) (s.deals false)))) ∧ BoxM w3 bm m ∧
          BoxD w3 bd (some ⟨(L.pb false i m.tx).1, 0, none⟩) d.parts.length (L.pb false i m.tx).2 (some (L.at_ (.done false i m.tx))) ∧ PartsAt w3 ((L.pb false i m.tx).1, (L.pb false i m.tx).2) d.parts :=
        ⟨_, rfl, by rw [hear]; exact hto3 _ hmv2, hbox2.block (fun e => HBM.out ⟨.done false i m.tx, by simp [Live, HDN.out], e.symm⟩) o3, hbd2.block (fun e => hbdm2 ⟨.done false i m.tx, by simp [Live, HDN.out], e.symm⟩) o3,
          hpt2.block (fun e => HPm.out ⟨.done false i m.tx, by simp [Live, HDN.out], e.symm⟩) o3⟩
      have ho3 : w3.heap[L.at_ (.done false i m.tx)]? = some o3 := by rw [hw3]; exact heap_setBlock_eq ho3a _
      have hrun3' := hrun3 w2 ho3a
      have hbc2 := hbox2.cells
      have hbdc2 := hbd2.cells
      have hparts : (d.hear m.src).parts = d.parts := by rw [hear]
      rw [show setV (AL.put m.src () d.done) = setV (d.hear m.src).done from by rw [hear]] at hM3
      have HW3 := Lib.hid hw3
      have HR3 := Lib.hid hrun3'
      clear hear hhas hw3 hrun3 hrun3' hto3 ho3a
      have hs3 := setSite_at hs (s.withDeals false (AL.put m.tx (d.hear m.src) (s.deals false)))
      have hbc3 := hbox3.cells
      have hbdc3 := hbd3.cells
      have d6 := hmv3.rep.site6 hs3
      have hslt3 := hmv3.rep.sitesLt
      have hlen4 := fun ty => hM3.len (t := 61) Try.underlying61 w3 ho3 ty
      have hsl : (setV (d.hear m.src).done).length = (d.hear m.src).done.length := by simp [setV]
      rw [hsl] at hlen4
      have hdeals : (s.withDeals false (AL.put m.tx (d.hear m.src) (s.deals false))).deals false = AL.put m.tx (d.hear m.src) (s.deals false) := rfl
      obtain ⟨o5, o5', ho5, hrun5, hto5⟩ := hmv3.dropDeal hs3 false htx (by rw [hdeals]; exact AL.nodup_put hn)
      have ht5 := fun ty => turns ho5 (fun W => hrun5 W ty)
      have hfull0 : (d.hear m.src).full = decide ((d.hear m.src).done.length = d.parts.length) := by unfold Deal.full; rw [hparts]
      have hfin1 : (d.hear m.src).full = false → Moves w L N w3 (N.agreed i s m) := fun hf => by
        unfold Net.agreed; rw [show AL.get? m.tx s.opened = some d from HD.out]; simp only [hf, Bool.false_eq_true, if_false]
        exact hmv3.moves
      have hN4 : ∀ W, Moved w L N W L (N.setSite i (s.withDeals false (AL.put m.tx (d.hear m.src) (s.deals false)))) → Moved w L N (setBlock W (L.at_ (.deals false i)) o5') L (N.setSite i (s.withDeals false (AL.del m.tx (s.deals false)))) := fun W hW => by
        have h1 := hto5 W hW
        rw [setSite_twice, hdeals] at h1
        have h2 : AL.del m.tx (AL.put m.tx (d.hear m.src) (s.deals false)) = AL.del m.tx (s.deals false) := del_put _ _ _
        rw [h2] at h1
        exact h1
      have hfin2 : ∀ w', (d.hear m.src).full = true → Moves w L N w' ((N.setSite i { s with opened := AL.del m.tx s.opened, granted := AL.put m.tx ⟨d.parts, []⟩ s.granted }).tell m.dst 4 m.tx d.parts nobody) → Moves w L N w' (N.agreed i s m) := fun w' hf hS => by
        unfold Net.agreed; rw [show AL.get? m.tx s.opened = some d from HD.out]; simp only [hf, if_true]
        exact hS
      have hbo3 := hbox3.drew.block (i := L.at_ (.deals false i)) (fun e => HBM.out ⟨.deals false i, by simp [Live]; exact siteLt hs, e.symm⟩) o5'
      have hbd3b := hbd3.drew.block (i := L.at_ (.deals false i)) (fun e => hbdm2 ⟨.deals false i, by simp [Live]; exact siteLt hs, e.symm⟩) o5'
      have hpt3b := hpt3.drew.block (i := L.at_ (.deals false i)) (fun e => HPm.out ⟨.deals false i, by simp [Live]; exact siteLt hs, e.symm⟩) o5'
      obtain ⟨w4, hw4, hmv4, hbox4, hbd4, hpt4⟩ : ∃ w4, w4 = setBlock w3.drew (L.at_ (.deals false i)) o5' ∧ Moved w L N w4 L (N.setSite i (s.withDeals false (AL.del m.tx (s.deals false)))) ∧ BoxM w4 bm m ∧
          BoxD w4 bd (some ⟨(L.pb false i m.tx).1, 0, none⟩) d.parts.length (L.pb false i m.tx).2 (some (L.at_ (.done false i m.tx))) ∧ PartsAt w4 ((L.pb false i m.tx).1, (L.pb false i m.tx).2) d.parts := ⟨_, rfl, hN4 _ hmv3.drew, hbo3, hbd3b, hpt3b⟩
      have HF1 := Lib.hid hfin1
      have HF2 := Lib.hid hfin2
      have HF0 := Lib.hid hfull0
      have HW4 := Lib.hid hw4
      have hs4 := setSite_at hs (s.withDeals false (AL.del m.tx (s.deals false)))
      have hbc4 := hbox4.cells
      have hbdc4 := hbd4.cells
      have e5 := hmv4.rep.site5 hs4
      have hslt4 := hmv4.rep.sitesLt
      have hdl4 : (s.withDeals false (AL.del m.tx (s.deals false))).deals true = s.deals true := rfl
      obtain ⟨o6, o6', ho6, hrun6, hto6⟩ := hmv4.addDeal hs4 true htx (by rw [hdl4]; exact rising_nodup (hsok.dealR true)) (by rw [hdl4]; have := hsok.dealLen hok.count true; omega) (pb := (L.pb false i m.tx).1) (cap := (L.pb false i m.tx).2) (b := w4.heap.size) (ps := d.parts)
      have ht6 := turns ho6 hrun6
      have hmk : ∀ A, (Instr.makeMap 61 none).run Try.prog A = .ok (.map (some A.heap.size)) (A.alloc (.map #[] 0)) := run_makeBools
      have hnm : ∀ b, Mut L (N.setSite i (s.withDeals false (AL.del m.tx (s.deals false)))) b → Mut L N b := fun b hb => mut_del hs false _ hb
      have hpb4 : (L.pb false i m.tx).1 ≠ w4.heap.size := by obtain ⟨o9, ho9, _⟩ := hpt4; have := lt_of ho9; omega
      have hmv6 := hto6 ((w4.alloc (.map #[] 0)).drew) (hmv4.alloc _).drew (alloc_same w4 _) (hmv4.rep.new_mut (Nat.le_refl _)) (hmv4.rep.new_fix (Nat.le_refl _)) (by have := hmv4.only.size; omega) (hpt4.alloc _).drew (fun hb => HPm.out (hnm _ hb)) hpb4 (.inl HPf.out)
      have hbox6 := ((hbox4.alloc (.map #[] 0)).drew).block (i := L.at_ (.deals true i)) (fun e => HBM.out ⟨.deals true i, by simp [Live]; exact siteLt hs, e.symm⟩) o6'
      have hbd6 := ((hbd4.alloc (.map #[] 0)).drew).block (i := L.at_ (.deals true i)) (fun e => hbdm2 ⟨.deals true i, by simp [Live]; exact siteLt hs, e.symm⟩) o6'
      have hpt6 := ((hpt4.alloc (.map #[] 0)).drew).block (i := L.at_ (.deals true i)) (fun e => HPm.out ⟨.deals true i, by simp [Live]; exact siteLt hs, e.symm⟩) o6'
      obtain ⟨w6, hw6⟩ : ∃ w6, w6 = setBlock (w4.alloc (.map #[] 0)).drew (L.at_ (.deals true i)) o6' := ⟨_, rfl⟩
      rw [← hw6] at hmv6 hbox6 hbd6 hpt6
      rw [setSite_twice] at hmv6
      have hbc6 := hbox6.cells
      have hbdc6 := hbd6.cells
      have hpm6 : ¬ Mut ((L.put (.done true i m.tx) w4.heap.size).putParts true i m.tx ((L.pb false i m.tx).1, (L.pb false i m.tx).2)) (N.setSite i ((s.withDeals false (AL.del m.tx (s.deals false))).withDeals true (AL.put m.tx ⟨d.parts, []⟩ (s.deals true)))) (L.pb false i m.tx).1 :=
        hmv6.rep.fix_mut ⟨true, i, m.tx, ⟨d.parts, []⟩, by rw [setSite_deal hs, if_pos rfl]; exact AL.get?_put_same _ _ (rising_nodup (hsok.dealR true)), by simp [Lay.putParts]⟩
      have hcall := tell_any hmv6.rep hmail m.dst 4 m.tx hpt6 hpm6 (by have := hdok.len; omega) 35 #[] nobody call_nobody (fun W L' N' _ x => nobody_any x W)
      have hnet6 : ((L.put (.done true i m.tx) w4.heap.size).putParts true i m.tx ((L.pb false i m.tx).1, (L.pb false i m.tx).2)).at_ .net = L.at_ .net := Lay.put_other L w4.heap.size (t := .done true i m.tx) (x := .net) (by simp)
      unfold netPtr at hcall
      rw [hnet6] at hcall
      have HC := Lib.hid hcall
      have HM6 := Lib.hid hmv6
      have HW6 := Lib.hid hw6
      clear hfin1 hfin2 hfull0 hw4 hw6 hmv6 hcall hpm6 hnet6 hmv4 hmv3 hmv2 hmv hl c6 hslt hbc hbox hbox2 hbd2 hb2 hbox3 hbd3 hpt3 hpt3b hbo3 hbd3b hN4 hto5 hrun5 ho5 hto6 hrun6 ho6 hs3 hs4 hsl hdeals hdl4 hnm hpb4 hM3 ho3 hbox4 hbd4 hpt4 hbox6 hbd6 hpt6 hparts hbdm2 hpt2
      by_cases hfl : (d.hear m.src).done.length = d.parts.length
      · have hlb : (((d.hear m.src).done.length : Int) == d.parts.length) = true := by simp; omega
        have HFl : Hid ((d.hear m.src).full = true) := by show _ = true; rw [HF0.out]; simpa using hfl
        clear hfl
        go_wp2_with (first | (at_mapUpdate; refine wpList_mapUpdate_to rfl _ _ _ _ rfl rfl rfl rfl _ HR3.out ?_; rw [← HW3.out]; clear hbc2 hbdc2) | go_in)
        go_region
        rw [← HW4.out]
        clear ht5 d6 hslt3 hbc3 hbdc3 hlen4
        go_wp2
        go_region
        rw [← HW6.out]
        clear ht6 e5 hslt4 hbc4 hbdc4
        go_wp2_with fail
        refine HC.out.mono ?_
        rintro e w' ⟨rfl, hS⟩
        have HF := Lib.hid (HF2.out w' HFl.out (Moves.after HM6.out hS))
        clear hS
        go_wp2
        exact bodyPost_ret (results_none rfl _ _ _) rfl ⟨rfl, HF.out⟩
      · have hlb : (((d.hear m.src).done.length : Int) == d.parts.length) = false := by simp; omega
        have HFl : Hid ((d.hear m.src).full = false) := by show _ = false; rw [HF0.out]; simpa using hfl
        clear hfl
        go_wp2_with (first | (at_mapUpdate; refine wpList_mapUpdate_to rfl _ _ _ _ rfl rfl rfl rfl _ HR3.out ?_; rw [← HW3.out]; clear hbc2 hbdc2) | go_in)
        exact bodyPost_ret (results_none rfl _ _ _) rfl ⟨rfl, HF1.out HFl.out⟩
end Go.Proofs.Ytfmfgckfeojfcaa
