/- The walk of PactStocks. -/
import Derived.Test.YtfmfgckfeojfcaaLawF
set_option linter.unusedSimpArgs false
set_option linter.unusedVariables false
namespace Go.Proofs.Ytfmfgckfeojfcaa
open Go.RowKit Go.Maps Go.ChangeMaps

/-- What the law's own stocks are, behind t transactions and q parts of the next one. -/
def Sums (S0 : List Int) (N : Net) (all : List (List Move)) (t q : Nat) (P : List Move) (o : List Int) : Prop :=
  o.length = S0.length ∧ ∀ (i : Nat) (x : Int), S0[i]? = some x → o[i]? = some (x + ksum (fun t => (N.tv t i).kept) i 1 (all.take t) + if (N.tv (t + 1) i).kept = true then chg (P.take q) i else 0)
section
variable {S0 : List Int} {N : Net} {all : List (List Move)} {t q : Nat} {P : List Move} {o : List Int}
theorem sums_bound {l : List Int} {T : Int → Prop} (h : Sums (tame l) N all t q P o) (hI : Inv T (tame l) all N) (hal : all.length ≤ 60) (hP : P ∈ all) {i : Nat} {y : Int} (hy : o[i]? = some y) : -1000000000000000 ≤ y ∧ y ≤ 1000000000000000 := by
  have hl := (List.getElem?_eq_some_iff.1 hy).1
  rw [h.1] at hl
  have hx : (tame l)[i]? = some (tame l)[i] := List.getElem?_eq_getElem hl
  have h1 := h.2 i _ hx
  rw [hy] at h1
  have h2 := (tame_ok l).1
  unfold okNew at h2
  simp only [Bool.and_eq_true, List.all_eq_true] at h2
  have h3 := h2.2 _ (List.mem_of_getElem? hx)
  unfold okStock at h3
  simp only [Bool.and_eq_true, decide_eq_true_eq] at h3
  have h4 := ksum_bound (f := fun t => (N.tv t i).kept) (x := i) (l := all.take t) (t := 1) fun Q hQ => hI.val Q (List.mem_of_mem_take hQ)
  have h5 := chg_bound (hI.val P hP) q i
  have h6 : (all.take t).length ≤ 60 := by rw [List.length_take]; omega
  simp only [Option.some.injEq] at h1
  split at h1 <;> omega
theorem Sums.start : Sums S0 N all 0 0 P S0 := ⟨rfl, fun i x hx => by rw [hx]; simp [ksum, chg]⟩
theorem Sums.next (h : Sums S0 N all t P.length P o) (ht : all[t]? = some P) (P' : List Move) : Sums S0 N all (t + 1) 0 P' o := by
  refine ⟨h.1, fun i x hx => ?_⟩
  rw [h.2 i x hx, ksum_take ht, List.take_length]
  simp [chg]; omega
theorem Sums.skip (h : Sums S0 N all t q P o) {p : Move} (hp : P[q]? = some p) (hk : (N.tv (t + 1) p.site).kept = false) : Sums S0 N all t (q + 1) P o := by
  refine ⟨h.1, fun i x hx => ?_⟩
  rw [h.2 i x hx, chg_take hp]
  by_cases e : p.site = i
  · rw [← e, hk]; simp
  · simp [e]
theorem Sums.add (h : Sums S0 N all t q P o) {p : Move} (hp : P[q]? = some p) (hk : (N.tv (t + 1) p.site).kept = true) {i : Nat} (hi : p.site = i) {y : Int} (hy : o[i]? = some y) : Sums S0 N all t (q + 1) P (o.set i (y + p.change)) := by
  refine ⟨by rw [List.length_set]; exact h.1, fun j x hx => ?_⟩
  have h1 := h.2 j x hx
  have hl := (List.getElem?_eq_some_iff.1 hy).1
  by_cases e : j = i
  · subst e
    rw [List.getElem?_set_self hl]
    rw [hy] at h1
    rw [hi] at hk
    rw [chg_take hp, hi]
    simp only [hk, if_true, Option.some.injEq] at h1 ⊢
    omega
  · rw [List.getElem?_set_ne (fun e' => e e'.symm), h1, chg_take hp]
    have : ¬ p.site = j := by omega
    simp [this]
end

set_option maxRecDepth 200000 in
set_option maxHeartbeats 16000000 in
theorem pactStocks_any {w : World} {oa ob od : Option Addr} {on oc bn bc dn dc : Nat} {l : List Int} {acts : List Act} {ord : List Int} (hl : IntsIn w oa on oc l) (ha : ActsIn w ob bn bc acts) (hd : IntsIn w od dn dc ord) :
    Calls Try.prog 4 #[.slice oa on oc, .slice ob bn bc, .slice od dn dc] w fun e w' => e = .returned (.bool true) ∧ Below w.heap.size w w' := by
  have hT : Calls Try.prog 6 #[.slice oa on oc] w fun e w1 => ∃ g c, e = .returned (.slice (some ⟨g, 0, none⟩) (tame l).length c) ∧ Below w.heap.size w w1 ∧ (∃ o, w1.heap[g]? = some o ∧ IsRow 3 1 (tame l).length c (ints (tame l)) o) ∧ g < w1.heap.size ∧ w.heap.size ≤ g ∧
      Calls Try.prog 7 #[.slice (some ⟨g, 0, none⟩) (tame l).length c] w1 fun e w2 => ∃ nb, e = .returned (.tuple #[ptr nb, .int .i64 0]) ∧ Runs w1 w2 (tame l) nb 0 (.int .i64 0) (.slice none 0 0) ∧
        Calls Try.prog 8 #[ptr nb] w2 fun e w' => e = .returned (.int .i64 (tame l).length) ∧ w2 = w' := by
    refine (tame_any hl).mono ?_
    rintro e w1 ⟨v', rfl, hown, hb⟩
    obtain ⟨g, c, o, rfl, hg, ho, hr⟩ := tame_form hown
    refine ⟨g, c, rfl, hb, ⟨o, ho, hr⟩, lt_of ho, hg, ?_⟩
    refine (ownF_new ho hr (tame_ok l).1).mono ?_
    rintro e w2 ⟨nb, rfl, hO, hb2⟩
    refine ⟨nb, rfl, ⟨Net.new (tame l), _, [], rfl, hO, Inv.new (tame_ok l).1, AllAt.nil, Nat.le_refl _, fun b hb => hb, hb2⟩, ?_⟩
    have := ownF_sites hO
    rwa [show (Net.new (tame l)).sites.length = (tame l).length by simp [Net.new]] at this
  have hlen5 := (tame_ok l).2
  obtain ⟨L5, hL5⟩ : ∃ L5, (tame l).length = L5 := ⟨_, rfl⟩
  rw [hL5] at hT hlen5
  unfold ptr at hT
  have HT := Lib.hid hT
  have HA := Lib.hid ha
  have HD := Lib.hid hd
  have hbn := ha.cap
  have hbc := ha.max
  have HAL := Lib.hid ha.len
  clear hT hl ha hd
  obtain ⟨i0, hi, hz0, hz1, hz2⟩ := info_parts info_moves
  go_enter Try.func4, Try.ntmps4
  go_wp2_with (first
    | (go_at_call 6; refine HT.out.mono ?_; rintro e w1 ⟨g, c, rfl, hb1, ho1, hg1, hgw0, hN⟩; have HGw := Lib.hid hgw0; clear hgw0; have HN := Lib.hid hN; have HB1 := Lib.hid hb1; have HO1 := Lib.hid ho1; clear hN hb1 ho1)
    | (go_at_call 7; refine HN.out.mono ?_; rintro e w2 ⟨nb, rfl, hR, hS⟩; have HR := Lib.hid hR; have HS := Lib.hid hS; clear hR hS)
    | (go_at_call 8; refine HS.out.mono ?_; rintro e w' ⟨rfl, rfl⟩) | go_in)
  go_loopw [10, 11, 12] (fun txs v i wr => ∃ k : Nat, i = .int .i64 k ∧ k ≤ bn ∧ k ≤ 60 ∧ Runs w1 wr (tame l) nb k txs v) (fun _ _ i _ => 60 - (intOf i).toNat)
  case atStart => exact ⟨0, rfl, Nat.zero_le _, by omega, HR.out⟩
  case round =>
    clear HR HS HN
    obtain ⟨k, rfl, hk, hk60, N, F, all, rfl, hO, hI, hAll, hal, hF, hBw⟩ := hrel
    by_cases hlt : k < bn ∧ k < 60
    · obtain ⟨hlt, hlt60⟩ := hlt
      obtain ⟨a, hact⟩ : ∃ a, acts[k]? = some a := ⟨acts[k]'(by rw [HAL.out]; exact hlt), by simp⟩
      obtain ⟨han, ad, av, rfl, e0, e1, e2, e3, hmv⟩ := HA.out.cell k a hact
      have hbw : Below w.heap.size w wr := HB1.out.trans (hBw.mono HB1.out.size)
      have c0 := (World.cell?_of_block (hbw.block _ (lt_of_cell e0))).trans e0
      have c1 : wr.cell? ⟨(ad.add (k * 4)).block, (ad.add (k * 4)).off + 1, none⟩ = some (.int .i64 a.site) := by rw [← add_at ad (k * 4) (by decide)]; exact (World.cell?_of_block (hbw.block _ (lt_of_cell e1))).trans e1
      have c2 : wr.cell? ⟨(ad.add (k * 4)).block, (ad.add (k * 4)).off + 2, none⟩ = some (.int .i64 a.n) := by rw [← add_at ad (k * 4) (by decide)]; exact (World.cell?_of_block (hbw.block _ (lt_of_cell e2))).trans e2
      have c3 : wr.cell? ⟨(ad.add (k * 4)).block, (ad.add (k * 4)).off + 3, none⟩ = some av := by rw [← add_at ad (k * 4) (by decide)]; exact (World.cell?_of_block (hbw.block _ (lt_of_cell e3))).trans e3
      have hAct := act_any hO a han (movesIn_below hmv hbw) N.count
      have hcnt := hI.ok.count
      have hpo : ∀ (w2 : World), Keep F wr w2 → OwnF F w2 nb (act N a N.count).1 → Inv Never (tame l) (all ++ [a.parts.take 9]) (act N a N.count).1 → w2.cell? ⟨(ad.add (k * 4)).block, (ad.add (k * 4)).off + 3, none⟩ = some av ∧ Calls Try.prog 10 #[av] w2 fun e w5 => ∃ u, e = .returned u ∧ (∃ ua un uc, u = .slice ua un uc) ∧
          ∃ vs, (w5.alloc (.cells #[u] 32)).ownsRow w1.heap.size 32 1 u11 all.length vs ∧ w1.heap.size ≤ (w5.alloc (.cells #[u] 32)).heap.size ∧
            ∀ v' w6, w6.ownsRow w1.heap.size 32 1 v' (all.length + 1) (vs ++ [u]) → (w5.alloc (.cells #[u] 32)).grownBy w6 u11.ownBlock → (v'.ownBlock = u11.ownBlock ∨ v'.ownBlock = some (w5.alloc (.cells #[u] 32)).heap.size) →
              Runs w1 w6 (tame l) nb (k + 1) (.int .i64 (N.count + 1)) v' := fun w2 hk2 hO2 hI2 => by
        have hb2 : Below w1.heap.size w1 w2 := hBw.trans (Only.below hk2 fun b hb => ⟨Nat.lt_of_lt_of_le hb hBw.size, fun e => e (hF b hb)⟩)
        have hbw2 : Below w.heap.size w w2 := HB1.out.trans (hb2.mono HB1.out.size)
        refine ⟨by rw [← add_at ad (k * 4) (by decide)]; exact (World.cell?_of_block (hbw2.block _ (lt_of_cell e3))).trans e3, (parts_any (movesIn_below hmv hbw2)).mono ?_⟩
        rintro e w5 ⟨u, rfl, hu, hb5⟩
        have hAll2 := hAll.kept (fun b hb => hO.lt hb) hk2
        obtain ⟨vs, p1, p2, p3, p4⟩ := hAll2.push hb2.size hO2 hb5 hu
        refine ⟨u, rfl, slice_form hu, vs, p2, by have h1 := hb5.size; have h2 := hb2.size; show _ ≤ (w5.heap.push _).size; rw [Array.size_push]; omega, fun v' w6 q1 q2 q3 => ?_⟩
        obtain ⟨hon, F', r1, r2, r3⟩ := p4 v' w6 q1 q2 q3
        have hc2 := hI2.cnt
        have hc1 := hI.cnt
        refine ⟨_, F', _, ?_, r2, hI2, r3, by simp; omega, fun b hb => r1 b (hF b hb), hb2.trans (Only.below hon fun b hb => ⟨Nat.lt_of_lt_of_le hb hb2.size, fun e => ?_⟩)⟩
        · rw [hc2]; simp; omega
        · have h1 := hAll2.own b e
          obtain ⟨vs', _, o2, _⟩ := hAll2.ex
          have := (o2.lt b e).1
          omega
      have hvf : ∃ va vc, u11 = .slice va all.length vc := by
        obtain ⟨vs', _, o2, _⟩ := hAll.ex
        rcases isRow_of_owns o2 with ⟨rfl, e, _⟩ | ⟨g, cap, o, rfl, _⟩
        · exact ⟨none, 0, by rw [e]⟩
        · exact ⟨_, _, rfl⟩
      have hal9 : all.length ≤ 60 := by omega
      rcases hI.act a with ⟨g1, g2⟩ | ⟨g1, g2⟩
      · rw [g1] at hAct
        have hAct' : Calls Try.prog 9 #[ptr nb, .agg #[.int .i64 a.kind, .int .i64 a.site, .int .i64 a.n, av], .int .i64 N.count] wr fun e w' => e = .returned (.int .i64 N.count) ∧ Runs w1 w' (tame l) nb (k + 1) (.int .i64 N.count) u11 := by
          refine hAct.mono ?_
          rintro e w' ⟨rfl, hO2, hk2⟩
          have hc2 := g2.cnt
          have hc1 := hI.cnt
          exact ⟨rfl, _, F, all, by rw [hc2, hc1], hO2, g2, hAll.kept (fun b hb => hO.lt hb) hk2, by omega, hF, hBw.trans (Only.below hk2 fun b hb => ⟨Nat.lt_of_lt_of_le hb hBw.size, fun e => e (hF b hb)⟩)⟩
        unfold ptr at hAct'
        have HAct := Lib.hid hAct'
        clear hAct hAct' hpo hvf g1 g2 hO hI hAll hal hal9 hF hBw hbw e0 e1 e2 e3 hmv hact
        generalize N.count = cn at *
        go_wp2_with (first
          | (go_at_call 9; refine HAct.out.mono ?_; rintro e w' ⟨rfl, hR⟩; have HR := Lib.hid hR; clear hR)
          | go_in)
        go_roundw
        case rel => exact ⟨k + 1, by go_num, by omega, by omega, HR.out⟩
        case measure => simp [intOf]; omega
      · rw [g1] at hAct
        have hAct' : Calls Try.prog 9 #[ptr nb, .agg #[.int .i64 a.kind, .int .i64 a.site, .int .i64 a.n, av], .int .i64 N.count] wr fun e w2 => e = .returned (.int .i64 (N.count + 1)) ∧ w2.cell? ⟨(ad.add (k * 4)).block, (ad.add (k * 4)).off + 3, none⟩ = some av ∧ Calls Try.prog 10 #[av] w2 fun e w5 => ∃ u, e = .returned u ∧ (∃ ua un uc, u = .slice ua un uc) ∧
          ∃ vs, (w5.alloc (.cells #[u] 32)).ownsRow w1.heap.size 32 1 u11 all.length vs ∧ w1.heap.size ≤ (w5.alloc (.cells #[u] 32)).heap.size ∧
            ∀ v' w6, w6.ownsRow w1.heap.size 32 1 v' (all.length + 1) (vs ++ [u]) → (w5.alloc (.cells #[u] 32)).grownBy w6 u11.ownBlock → (v'.ownBlock = u11.ownBlock ∨ v'.ownBlock = some (w5.alloc (.cells #[u] 32)).heap.size) →
              Runs w1 w6 (tame l) nb (k + 1) (.int .i64 (N.count + 1)) v' := by
          refine hAct.mono ?_
          rintro e w2 ⟨rfl, hO2, hk2⟩
          have := hpo w2 hk2 hO2 g2
          exact ⟨rfl, this.1, this.2⟩
        unfold ptr at hAct'
        have HAct := Lib.hid hAct'
        obtain ⟨va, vc, rfl⟩ := hvf
        clear hAct hAct' hpo g1 g2 hO hI hAll hF hBw hbw e0 e1 e2 e3 hmv hact
        generalize N.count = cn at *
        generalize all.length = an at *
        go_wp2_with (first
          | (go_at_call 9; refine HAct.out.mono ?_; rintro e w2 ⟨rfl, b3, hP⟩; have HP := Lib.hid hP; clear hP)
          | (go_at_call 10; refine HP.out.mono ?_; rintro e w5 ⟨u, rfl, ⟨ua, un, uc, rfl⟩, vs, hvs, hsz, hend⟩; have HVS := Lib.hid hvs; have HEnd := Lib.hid hend; clear hvs hend)
          | (at_builtin; refine wpList_append_own_at _ rfl _ _ 30 rfl w1.heap.size 32 i0 _ 1 24 Try.underlying30 hi hz0 hz1 hz2 rfl (by decide) _ _ _ rfl HVS.out ⟨w5.heap.size, 0, none⟩ 1 1 [.slice ua un uc] rfl rfl (new_cells w5 _ _) (fun u hu => by rw [List.mem_singleton.1 hu]; rfl) (by unfold maxLen; omega) (by omega) hsz ?_)
          | go_in)
        intro v' w6 hown hg6 _ hloc
        have HR := Lib.hid (HEnd.out v' w6 hown hg6 (hloc.imp id fun e => e.trans (by show _ = some (w5.heap.push _).size; rw [Array.size_push])))
        clear hown hg6 hloc
        go_wp2
        go_roundw
        case rel => exact ⟨k + 1, by go_num, by omega, by omega, HR.out⟩
        case measure => simp [intOf]; omega
    · have hexit : k = bn ∨ k = 60 := by omega
      have hbw : Below w.heap.size w wr := HB1.out.trans (hBw.mono HB1.out.size)
      have hcalm := calm_any hO hI (by omega) hbw (fun b hb => hF b (Nat.lt_of_lt_of_le hb HB1.out.size)) HD.out
      have hcnt := hI.cnt
      obtain ⟨va, vc, rfl⟩ : ∃ va vc, u11 = .slice va all.length vc := by
        obtain ⟨vs', _, o2, _⟩ := hAll.ex
        rcases isRow_of_owns o2 with ⟨rfl, e, _⟩ | ⟨g, cap, o, rfl, _⟩
        · exact ⟨none, 0, by rw [e]⟩
        · exact ⟨_, _, rfl⟩
      have hcalm' : Calls Try.prog 11 #[ptr nb, .slice od dn dc] wr fun e w3 => ∃ b1 b2, e = .returned (.tuple #[.bool b1, .bool b2]) ∧ Below w.heap.size w w3 ∧ (b2 = true ∨ (b1 = true ∧ b2 = false ∧
          ∃ N' : Net, OwnF F w3 nb N' ∧ Inv Always (tame l) all N' ∧ N'.mail.length = 0 ∧ AllAt w1.heap.size F w3 (.slice va all.length vc) all ∧ ∃ o, w3.heap[g]? = some o ∧ IsRow 3 1 L5 c (ints (tame l)) o)) := by
        refine hcalm.mono ?_
        rintro e w3 ⟨b1, b2, N', rfl, hk3, hO3, hor⟩
        have hb3 : Below w1.heap.size w1 w3 := hBw.trans (Only.below hk3 fun b hb => ⟨Nat.lt_of_lt_of_le hb hBw.size, fun e => e (hF b hb)⟩)
        have hAll3 := hAll.kept (fun b hb => hO.lt hb) hk3
        obtain ⟨o, ho, hr⟩ := HO1.out
        exact ⟨b1, b2, rfl, HB1.out.trans (hb3.mono HB1.out.size), hor.imp id fun ⟨e1, e2, hm, hI3⟩ => ⟨e1, e2, N', hO3, hI3, hm, hAll3, o, (hb3.block g hg1).trans ho, hr⟩⟩
      unfold ptr at hcalm'
      have HC := Lib.hid hcalm'
      have HB := Lib.hid hbw
      obtain ⟨an, han⟩ : ∃ an, all.length = an := ⟨_, rfl⟩
      have hal2 : an ≤ 60 := by omega
      have HLen : Hid (∀ t, t < an → ∃ P, all[t]? = some P) := fun t ht => ⟨all[t]'(by omega), List.getElem?_eq_getElem (by omega)⟩
      have hFg := hF g hg1
      clear hcalm hcalm' hO hI hAll hF hBw hbw hal
      rw [hcnt, han]
      have HLen2 := Lib.hid han
      clear hcnt han
      have HFg : Hid (F g) := hFg
      clear hFg
      have hsplit : (k < bn ∧ ¬ k < 60) ∨ ¬ k < bn := by omega
      clear hexit hlt
      rcases hsplit with ⟨hx1, hx2⟩ | hx1
      all_goals
        go_wp2_with (first
          | (go_at_call 11; refine HC.out.mono ?_; rintro e w3 ⟨b1, b2, rfl, hb3, hor⟩; have HB3 := Lib.hid hb3; clear hb3; rcases hor with rfl | ⟨rfl, rfl, hS⟩)
          | (go_at_call 12; refine (awake_any _).mono ?_; rintro e w' ⟨rfl, hb⟩)
          | go_in)
        · go_ret
          exact ⟨rfl, HB3.out.trans (hb.mono HB3.out.size)⟩
        · obtain ⟨N', hO3, hI3, hm, hAll3, hrow3⟩ := hS
          have HOwn : Hid (∀ wr, Only (fun b => b = g) w3 wr → OwnF F wr nb N') := fun wr h => hO3.turn h fun b e => by rw [e]; exact HFg.out
          have hval := hI3.val
          have HAll : Hid (∀ (t : Nat) (P : List Move), all[t]? = some P → ∃ (g1 g2 c2 : Nat), va = some ⟨g1, 0, none⟩ ∧ P.length ≤ 8 ∧ ∀ wr, Only (fun b => b = g) w3 wr → wr.cell? ⟨g1, t, none⟩ = some (.slice (some ⟨g2, 0, none⟩) P.length c2) ∧
              ∀ (j : Nat) (p : Move), P[j]? = some p → wr.cell? ⟨g2, j * 2, none⟩ = some (.int .i64 p.site) ∧ wr.cell? ⟨g2, j * 2 + 1, none⟩ = some (.int .i64 p.change)) := by
            intro t P ht
            have hPo := hI3.val P (List.mem_of_getElem? ht)
            obtain ⟨vs, o1, o2, o3⟩ := hAll3.ex
            obtain ⟨u, q1, q2, q3⟩ := o3 t P ht
            have htl := (List.getElem?_eq_some_iff.1 ht).1
            have hpl := List.length_pos_iff.2 hPo.ne
            obtain ⟨g1, cap1, ob1, ev, hg1', hob1, hr1⟩ : ∃ g1 cap1 ob1, (.slice va all.length vc : Value) = .slice (some ⟨g1, 0, none⟩) all.length cap1 ∧ w1.heap.size ≤ g1 ∧ w3.heap[g1]? = some ob1 ∧ IsRow 32 1 all.length cap1 vs ob1 := by
              rcases isRow_of_owns o2 with ⟨_, e, _⟩ | h
              · omega
              · exact h
            obtain ⟨g2, cap2, ob2, rfl, hg2', hob2, hr2⟩ : ∃ g2 cap2 ob2, u = .slice (some ⟨g2, 0, none⟩) P.length cap2 ∧ w1.heap.size ≤ g2 ∧ w3.heap[g2]? = some ob2 ∧ IsRow 43 2 P.length cap2 (P.flatMap Move.cells) ob2 := by
              rcases isRow_of_owns q2 with ⟨_, e, _⟩ | h
              · omega
              · exact h
            have hva : va = some ⟨g1, 0, none⟩ := by cases ev; rfl
            refine ⟨g1, g2, cap2, hva, hPo.len, fun wr hbr => ⟨?_, fun j p hj => ⟨?_, ?_⟩⟩⟩
            · exact hr1.cell ((hbr.block g1 (lt_of hob1) (fun e => by omega)).trans hob1) (j := t) q1
            · exact hr2.cell ((hbr.block g2 (lt_of hob2) (fun e => by omega)).trans hob2) (j := j * 2) (by rw [show j * 2 = j * 2 + 0 from rfl, get_flat (fun x _ => Move.cells2 x) (by decide), hj]; rfl)
            · exact hr2.cell ((hbr.block g2 (lt_of hob2) (fun e => by omega)).trans hob2) (j := j * 2 + 1) (by rw [get_flat (fun x _ => Move.cells2 x) (by decide), hj]; rfl)
          have HI3 := Lib.hid hI3
          have HM := Lib.hid hm
          have HRow : Hid (∃ o, w3.heap[g]? = some o ∧ IsRow 3 1 L5 c (ints (tame l)) o) := hrow3
          clear hO3 hI3 hm hAll3 hrow3 hval
          clear HC HB HO1 HA HD HT HAL
          go_loopw [16] (fun i wr => ∃ t : Nat, i = .int .i64 ((t : Int) + 1) ∧ t ≤ an ∧ Only (fun b => b = g) w3 wr ∧ ∃ o, Sums (tame l) N' all t 0 [] o ∧ ∃ ob, wr.heap[g]? = some ob ∧ IsRow 3 1 L5 c (ints o) ob) (fun i _ => an + 1 - (intOf i).toNat)
          case atStart => exact ⟨0, rfl, Nat.zero_le _, Only.refl _ _, _, Sums.start, HRow.out⟩
          case round =>
            obtain ⟨t, rfl, ht, hBr, o, hsum, hrow⟩ := hrel
            by_cases htl : t < an
            · obtain ⟨P, hP⟩ := HLen.out t htl
              obtain ⟨g1, g2, c2, rfl, hpl, hcells⟩ := HAll.out t P hP
              have hc0 := (hcells wr hBr).1
              have HCells := Lib.hid hcells
              have HBr : Hid (Only (fun b => b = g) w3 wr ∧ ∃ o, Sums (tame l) N' all t 0 P o ∧ ∃ ob, wr.heap[g]? = some ob ∧ IsRow 3 1 L5 c (ints o) ob) := ⟨hBr, o, ⟨hsum.1, fun i x hx => by have := hsum.2 i x hx; simpa [chg] using this⟩, hrow⟩
              obtain ⟨pn, hpn⟩ : ∃ pn, P.length = pn := ⟨_, rfl⟩
              rw [hpn] at hpl hc0
              have HPn := Lib.hid hpn
              have HPt := Lib.hid hP
              clear hcells hBr hsum hrow hpn hP
              go_wp2
              try rw [show decide ((t : Int) + 1 ≤ (an : Int)) = true from decide_eq_true (by omega)]
              go_loopw [17] (fun j wr => ∃ q : Nat, j = .int .i64 q ∧ q ≤ pn ∧ Only (fun b => b = g) w3 wr ∧ ∃ o, Sums (tame l) N' all t q P o ∧ ∃ ob, wr.heap[g]? = some ob ∧ IsRow 3 1 L5 c (ints o) ob) (fun j _ => pn - (intOf j).toNat)
              case atStart => exact ⟨0, rfl, Nat.zero_le _, HBr.out⟩
              case round =>
                obtain ⟨q, rfl, hq, hBq, o, hsum, ob, hob, hr⟩ := hrel
                obtain ⟨hc1, hcs⟩ := HCells.out wr hBq
                rw [HPn.out] at hc1
                by_cases hql : q < pn
                · obtain ⟨p, hp⟩ : ∃ p, P[q]? = some p := ⟨P[q]'(by rw [HPn.out]; exact hql), by simp⟩
                  obtain ⟨hc2, hc3⟩ := hcs q p hp
                  have hPo := HI3.out.val P (List.mem_of_getElem? HPt.out)
                  have hps := hPo.sites p (List.mem_of_getElem? hp)
                  have hpc := hPo.change p (List.mem_of_getElem? hp)
                  rw [HI3.out.len, hL5] at hps
                  obtain ⟨i, hi⟩ : ∃ i : Nat, p.site = i := ⟨p.site.toNat, by omega⟩
                  have hps2 : i < L5 := by omega
                  have hlen := hsum.1
                  rw [hL5] at hlen
                  obtain ⟨y, hy⟩ : ∃ y, o[i]? = some y := ⟨o[i]'(by omega), List.getElem?_eq_getElem _⟩
                  have hyb : -1000000000000000 ≤ y ∧ y ≤ 1000000000000000 := sums_bound hsum HI3.out (by rw [HLen2.out]; exact hal2) (List.mem_of_getElem? HPt.out) hy
                  have hW3 : Only (fun b => b = g) w3 (wr.alloc (.cells #[.int .i64 i, .int .i64 p.change] 43)) := hBq.alloc _
                  have hbox : (wr.alloc (.cells #[.int .i64 i, .int .i64 p.change] 43)).heap[wr.heap.size]? = some (.cells #[.int .i64 i, .int .i64 p.change] 43 (0, 0)) := alloc_same wr _
                  have hgw : g < wr.heap.size := lt_of hob
                  have hob3 := (alloc_other wr (.cells #[.int .i64 i, .int .i64 p.change] 43) hgw).trans hob
                  have c0 : (wr.alloc (.cells #[.int .i64 i, .int .i64 p.change] 43)).cell? ⟨wr.heap.size, 0, none⟩ = some (.int .i64 i) := cell_of hbox rfl
                  have hcnt := HI3.out.cnt
                  have hcnt2 := HI3.out.ok.count
                  have hOut := ownF_outcome (HOwn.out _ hW3) i (tx := (t : Int) + 1) (by rw [HLen2.out] at hcnt; unfold i64; omega)
                  have hko := end_outcome HI3.out HM.out HPt.out (x := i) (by rw [HI3.out.len, hL5]; omega)
                  have hOut' : Calls Try.prog 16 #[ptr nb, .int .i64 i, .int .i64 ((t : Int) + 1)] (wr.alloc (.cells #[.int .i64 i, .int .i64 p.change] 43)) fun e w' => e = .returned (.int .i64 (N'.outcome i (t + 1))) ∧
                      w'.cell? ⟨wr.heap.size, 0, none⟩ = some (.int .i64 i) ∧ w'.cell? ⟨wr.heap.size, 1, none⟩ = some (.int .i64 p.change) ∧ w'.cell? ⟨g, i, none⟩ = some (.int .i64 y) ∧ w'.frozen? ⟨g, i, none⟩ = false ∧
                      (N'.outcome i (t + 1) = 2 → Only (fun b => b = g) w3 (w'.setCell ⟨g, i, none⟩ (.int .i64 (y + p.change))).drew ∧ ∃ o, Sums (tame l) N' all t (q + 1) P o ∧ ∃ ob, (w'.setCell ⟨g, i, none⟩ (.int .i64 (y + p.change))).drew.heap[g]? = some ob ∧ IsRow 3 1 L5 c (ints o) ob) ∧
                      (N'.outcome i (t + 1) ≠ 2 → Only (fun b => b = g) w3 w' ∧ ∃ o, Sums (tame l) N' all t (q + 1) P o ∧ ∃ ob, w'.heap[g]? = some ob ∧ IsRow 3 1 L5 c (ints o) ob) := by
                    refine hOut.mono ?_
                    rintro e w' ⟨rfl, hb⟩
                    have hbox' := (hb.block _ (lt_of hbox)).trans hbox
                    have hob' := (hb.block _ (lt_of hob3)).trans hob3
                    have hon : Only (fun b => b = g) w3 w' := hW3.trans (Only.of_below (S := fun b => b = g) hb) fun _ _ h => h
                    refine ⟨rfl, cell_of hbox' rfl, cell_of hbox' rfl, hr.cell hob' (by unfold ints; rw [List.getElem?_map, hy]; rfl), hr.free hob' i, fun h2 => ⟨(hon.setCell _ _ (.inl rfl)).drew, ?_⟩, fun h2 => ⟨hon, o, hsum.skip hp ?_, ob, hob', hr⟩⟩
                    · obtain ⟨ob2, q1, q2⟩ := hr.set (w := w') hob' i (.int .i64 (y + p.change))
                      refine ⟨_, hsum.add hp (by rw [hi]; exact hko.1 h2) hi hy, ob2, q1, ?_⟩
                      unfold ints at q2 ⊢
                      rw [List.map_set]
                      exact q2
                    · rw [hi]
                      cases e : (N'.tv (t + 1) i).kept with
                      | false => rfl
                      | true => exact absurd (hko.2 e) h2
                  unfold ptr at hOut'
                  rw [hi] at hc2
                  have HOut := Lib.hid hOut'
                  clear hcs hOut hOut' hko hcnt hcnt2 hob3 hbox hW3 hsum hlen hob hr hBq hp hy hPo hps
                  generalize N'.outcome i (t + 1) = z at *
                  by_cases hz : z = 2
                  · subst hz
                    go_wp2_with (first
                      | (go_at_call 16; refine HOut.out.mono ?_; rintro e w' ⟨rfl, d0, d1, d2, d3, hE1, hE2⟩; have HE := Lib.hid hE1; clear hE1 hE2)
                      | go_in)
                    first | go_region | fail
                    have HE2 := HE.out (by first | rfl | trivial)
                    clear HE
                    go_wp2
                    go_roundw
                    case rel => exact ⟨q + 1, by go_num, by omega, HE2⟩
                    case measure => simp [intOf]; omega
                  · have hz' : (z == 2) = false := by simpa using hz
                    go_wp2_with (first
                      | (go_at_call 16; refine HOut.out.mono ?_; rintro e w' ⟨rfl, d0, d1, d2, d3, hE1, hE2⟩; have HE := Lib.hid (hE2 hz); clear hE1 hE2)
                      | go_in)
                    go_roundw
                    case rel => exact ⟨q + 1, by go_num, by omega, HE.out⟩
                    case measure => simp [intOf]; omega
                · have hqe : q = pn := by omega
                  subst hqe
                  have HBq : Hid (Only (fun b => b = g) w3 wr ∧ ∃ o, Sums (tame l) N' all (t + 1) 0 [] o ∧ ∃ ob, wr.heap[g]? = some ob ∧ IsRow 3 1 L5 c (ints o) ob) := ⟨hBq, o, (by rw [← HPn.out] at hsum; exact hsum.next HPt.out []), ob, hob, hr⟩
                  clear hcs hsum hob hr hBq
                  go_wp2
                  go_roundw
                  case rel => exact ⟨t + 1, by go_num, by omega, HBq.out⟩
                  case measure => simp [intOf]; omega
            · have hta : t = an := by omega
              subst hta
              have hOw := HOwn.out wr hBr
              have hcell : ∀ (i : Nat) (s : Site), N'.sites[i]? = some s → wr.cell? ⟨g, i, none⟩ = some (.int .i64 s.stock) := fun i s hs => by
                obtain ⟨ob, hob, hr⟩ := hrow
                have hil := siteLt hs
                rw [HI3.out.len] at hil
                have hx : (tame l)[i]? = some (tame l)[i] := List.getElem?_eq_getElem hil
                have h1 := hsum.2 i _ hx
                rw [List.take_of_length_le (by rw [HLen2.out]; exact Nat.le_refl _)] at h1
                rw [end_stock HI3.out hs hx]
                refine hr.cell hob ?_
                unfold ints
                rw [List.getElem?_map, h1]
                simp [chg]
              have hst : ∀ (i : Nat) (s : Site), N'.sites[i]? = some s → Calls Try.prog 17 #[ptr nb, .int .i64 i] wr fun e w' => e = .returned (.tuple #[.int .i64 s.stock, .int .i64 0]) ∧ wr = w' := fun i s hs => by
                have := ownF_stock hOw i
                rwa [stock_at hs] at this
              unfold ptr at hst
              have hsl : ∀ i, i < L5 → ∃ s, N'.sites[i]? = some s := fun i hi => ⟨N'.sites[i]'(by rw [HI3.out.len]; omega), List.getElem?_eq_getElem _⟩
              have HBr : Hid (Below w.heap.size w wr) := by
                have h1 := HB3.out
                have h2 := Only.below hBr (B := w.heap.size) fun b hb => ⟨Nat.lt_of_lt_of_le hb h1.size, fun e => by have := HGw.out; omega⟩
                exact h1.trans h2
              have HCell := Lib.hid hcell
              have HSt := Lib.hid hst
              have HSl := Lib.hid hsl
              clear hOw hcell hst hsl hBr hsum hrow HAll HOwn HRow HI3 HM
              go_wp2
              go_loopw [19] (fun i w5 => ∃ q : Nat, i = .int .i64 q ∧ q ≤ L5 ∧ w5 = wr) (fun i _ => L5 - (intOf i).toNat)
              case atStart => exact ⟨0, rfl, Nat.zero_le _, rfl⟩
              case round =>
                obtain ⟨q, rfl, hq, rfl⟩ := hrel
                by_cases hql : q < L5
                · obtain ⟨s, hs⟩ := HSl.out q hql
                  have hc := HCell.out q s hs
                  have hS := HSt.out q s hs
                  have HS2 := Lib.hid hS
                  clear hS hs
                  go_wp2_with (first
                    | (go_at_call 17; refine HS2.out.mono ?_; rintro e w' ⟨rfl, rfl⟩)
                    | go_in)
                  go_roundw
                  case rel => exact ⟨q + 1, by go_num, by omega, trivial⟩
                  case measure => simp [intOf]; omega
                · go_wp2_with (first
                    | (go_at_call 12; refine (awake_any _).mono ?_; rintro e w' ⟨rfl, hb⟩)
                    | go_in)
                  go_ret
                  exact ⟨rfl, HBr.out.trans (hb.mono HBr.out.size)⟩
end Go.Proofs.Ytfmfgckfeojfcaa
