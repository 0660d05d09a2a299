/- The walk of PactSettles. -/
import Derived.Test.YtfmfgckfeojfcaaLawE
set_option linter.unusedSimpArgs false
set_option linter.unusedVariables false
namespace Go.Proofs.Ytfmfgckfeojfcaa
open Go.RowKit Go.Maps Go.ChangeMaps

theorem tame_form {w w' : World} {l : List Int} {v : Value} (h : w'.ownsRow w.heap.size 3 1 v (tame l).length (ints (tame l))) : ∃ g c o, v = .slice (some ⟨g, 0, none⟩) (tame l).length c ∧ w.heap.size ≤ g ∧ w'.heap[g]? = some o ∧ IsRow 3 1 (tame l).length c (ints (tame l)) o := by
  have h1 := (tame_ok l).1
  unfold okNew at h1
  simp only [Bool.and_eq_true, decide_eq_true_eq] at h1
  rcases isRow_of_owns h with ⟨rfl, e, _⟩ | ⟨g, cap, o, rfl, hg, ho, hr⟩
  · omega
  · exact ⟨g, cap, o, rfl, hg, ho, hr⟩

theorem add_at (a : Addr) (m : Nat) {j : Nat} (hj : 0 < j) : a.add (m + j) = ⟨(a.add m).block, (a.add m).off + j, none⟩ := by
  unfold Addr.add
  rw [if_neg (by omega)]
  by_cases h : m = 0
  · subst h; simp
  · simp only [h, if_false, Nat.add_assoc]
theorem info_moves : (Try.prog.info? 32).map (fun i => (i.zero, i.size, i.bytes)) = some (some (.slice none 0 0), 1, 24) := by kernel_rfl
theorem slice_form {w : World} {B size n : Nat} {e : TypeId} {v : Value} {xs : List Value} (h : w.ownsRow B e size v n xs) : ∃ a m c, v = .slice a m c := by
  rcases isRow_of_owns h with ⟨rfl, _⟩ | ⟨g, cap, o, rfl, _⟩
  · exact ⟨_, _, _, rfl⟩
  · exact ⟨_, _, _, rfl⟩
/-- What the loop over the calls keeps. -/
def Runs (w1 : World) (wr : World) (S0 : List Int) (nb : Nat) (k : Nat) (txs : Value) (v : Value) : Prop :=
  ∃ (N : Net) (F : Nat → Prop) (all : List (List Move)), txs = .int .i64 N.count ∧ OwnF F wr nb N ∧ Inv Never S0 all N ∧ AllAt w1.heap.size F wr v all ∧ all.length ≤ k ∧ (∀ b, b < w1.heap.size → F b) ∧ Below w1.heap.size w1 wr

set_option maxRecDepth 200000 in
set_option maxHeartbeats 16000000 in
theorem pactSettles_any {w : World} {oa ob od : Option Addr} {on oc bn bc dn dc : Nat} {l : List Int} {acts : List Act} {ord : List Int} (hl : IntsIn w oa on oc l) (ha : ActsIn w ob bn bc acts) (hd : IntsIn w od dn dc ord) :
    Calls Try.prog 3 #[.slice oa on oc, .slice ob bn bc, .slice od dn dc] w fun e w' => e = .returned (.bool true) ∧ Below w.heap.size w w' := by
  have hT : Calls Try.prog 6 #[.slice oa on oc] w fun e w1 => ∃ g c, e = .returned (.slice (some ⟨g, 0, none⟩) (tame l).length c) ∧ Below w.heap.size w w1 ∧ (∃ o, w1.heap[g]? = some o ∧ IsRow 3 1 (tame l).length c (ints (tame l)) o) ∧ g < w1.heap.size ∧
      Calls Try.prog 7 #[.slice (some ⟨g, 0, none⟩) (tame l).length c] w1 fun e w2 => ∃ nb, e = .returned (.tuple #[ptr nb, .int .i64 0]) ∧ Runs w1 w2 (tame l) nb 0 (.int .i64 0) (.slice none 0 0) ∧
        Calls Try.prog 8 #[ptr nb] w2 fun e w' => e = .returned (.int .i64 (tame l).length) ∧ w2 = w' := by
    refine (tame_any hl).mono ?_
    rintro e w1 ⟨v', rfl, hown, hb⟩
    obtain ⟨g, c, o, rfl, hg, ho, hr⟩ := tame_form hown
    refine ⟨g, c, rfl, hb, ⟨o, ho, hr⟩, lt_of ho, ?_⟩
    refine (ownF_new ho hr (tame_ok l).1).mono ?_
    rintro e w2 ⟨nb, rfl, hO, hb2⟩
    refine ⟨nb, rfl, ⟨Net.new (tame l), _, [], rfl, hO, Inv.new (tame_ok l).1, AllAt.nil, Nat.le_refl _, fun b hb => hb, hb2⟩, ?_⟩
    have := ownF_sites hO
    rwa [show (Net.new (tame l)).sites.length = (tame l).length by simp [Net.new]] at this
  have hlen5 := (tame_ok l).2
  obtain ⟨L5, hL5⟩ : ∃ L5, (tame l).length = L5 := ⟨_, rfl⟩
  rw [hL5] at hT hlen5
  unfold ptr at hT
  have HT := Lib.hid hT
  have HA := Lib.hid ha
  have HD := Lib.hid hd
  have hbn := ha.cap
  have hbc := ha.max
  have HAL := Lib.hid ha.len
  clear hT hl ha hd
  obtain ⟨i0, hi, hz0, hz1, hz2⟩ := info_parts info_moves
  go_enter Try.func3, Try.ntmps3
  go_wp2_with (first
    | (go_at_call 6; refine HT.out.mono ?_; rintro e w1 ⟨g, c, rfl, hb1, ho1, hg1, hN⟩; have HN := Lib.hid hN; have HB1 := Lib.hid hb1; have HO1 := Lib.hid ho1; clear hN hb1 ho1)
    | (go_at_call 7; refine HN.out.mono ?_; rintro e w2 ⟨nb, rfl, hR, hS⟩; have HR := Lib.hid hR; have HS := Lib.hid hS; clear hR hS)
    | (go_at_call 8; refine HS.out.mono ?_; rintro e w' ⟨rfl, rfl⟩) | go_in)
  go_loopw [10, 11, 12] (fun txs v i wr => ∃ k : Nat, i = .int .i64 k ∧ k ≤ bn ∧ k ≤ 60 ∧ Runs w1 wr (tame l) nb k txs v) (fun _ _ i _ => 60 - (intOf i).toNat)
  case atStart => exact ⟨0, rfl, Nat.zero_le _, by omega, HR.out⟩
  case round =>
    clear HR HS HN
    obtain ⟨k, rfl, hk, hk60, N, F, all, rfl, hO, hI, hAll, hal, hF, hBw⟩ := hrel
    by_cases hlt : k < bn ∧ k < 60
    · obtain ⟨hlt, hlt60⟩ := hlt
      obtain ⟨a, hact⟩ : ∃ a, acts[k]? = some a := ⟨acts[k]'(by rw [HAL.out]; exact hlt), by simp⟩
      obtain ⟨han, ad, av, rfl, e0, e1, e2, e3, hmv⟩ := HA.out.cell k a hact
      have hbw : Below w.heap.size w wr := HB1.out.trans (hBw.mono HB1.out.size)
      have c0 := (World.cell?_of_block (hbw.block _ (lt_of_cell e0))).trans e0
      have c1 : wr.cell? ⟨(ad.add (k * 4)).block, (ad.add (k * 4)).off + 1, none⟩ = some (.int .i64 a.site) := by rw [← add_at ad (k * 4) (by decide)]; exact (World.cell?_of_block (hbw.block _ (lt_of_cell e1))).trans e1
      have c2 : wr.cell? ⟨(ad.add (k * 4)).block, (ad.add (k * 4)).off + 2, none⟩ = some (.int .i64 a.n) := by rw [← add_at ad (k * 4) (by decide)]; exact (World.cell?_of_block (hbw.block _ (lt_of_cell e2))).trans e2
      have c3 : wr.cell? ⟨(ad.add (k * 4)).block, (ad.add (k * 4)).off + 3, none⟩ = some av := by rw [← add_at ad (k * 4) (by decide)]; exact (World.cell?_of_block (hbw.block _ (lt_of_cell e3))).trans e3
      have hAct := act_any hO a han (movesIn_below hmv hbw) N.count
      have hcnt := hI.ok.count
      have hpo : ∀ (w2 : World), Keep F wr w2 → OwnF F w2 nb (act N a N.count).1 → Inv Never (tame l) (all ++ [a.parts.take 9]) (act N a N.count).1 → w2.cell? ⟨(ad.add (k * 4)).block, (ad.add (k * 4)).off + 3, none⟩ = some av ∧ Calls Try.prog 10 #[av] w2 fun e w5 => ∃ u, e = .returned u ∧ (∃ ua un uc, u = .slice ua un uc) ∧
          ∃ vs, (w5.alloc (.cells #[u] 32)).ownsRow w1.heap.size 32 1 u11 all.length vs ∧ w1.heap.size ≤ (w5.alloc (.cells #[u] 32)).heap.size ∧
            ∀ v' w6, w6.ownsRow w1.heap.size 32 1 v' (all.length + 1) (vs ++ [u]) → (w5.alloc (.cells #[u] 32)).grownBy w6 u11.ownBlock → (v'.ownBlock = u11.ownBlock ∨ v'.ownBlock = some (w5.alloc (.cells #[u] 32)).heap.size) →
              Runs w1 w6 (tame l) nb (k + 1) (.int .i64 (N.count + 1)) v' := fun w2 hk2 hO2 hI2 => by
        have hb2 : Below w1.heap.size w1 w2 := hBw.trans (Only.below hk2 fun b hb => ⟨Nat.lt_of_lt_of_le hb hBw.size, fun e => e (hF b hb)⟩)
        have hbw2 : Below w.heap.size w w2 := HB1.out.trans (hb2.mono HB1.out.size)
        refine ⟨by rw [← add_at ad (k * 4) (by decide)]; exact (World.cell?_of_block (hbw2.block _ (lt_of_cell e3))).trans e3, (parts_any (movesIn_below hmv hbw2)).mono ?_⟩
        rintro e w5 ⟨u, rfl, hu, hb5⟩
        have hAll2 := hAll.kept (fun b hb => hO.lt hb) hk2
        obtain ⟨vs, p1, p2, p3, p4⟩ := hAll2.push hb2.size hO2 hb5 hu
        refine ⟨u, rfl, slice_form hu, vs, p2, by have h1 := hb5.size; have h2 := hb2.size; show _ ≤ (w5.heap.push _).size; rw [Array.size_push]; omega, fun v' w6 q1 q2 q3 => ?_⟩
        obtain ⟨hon, F', r1, r2, r3⟩ := p4 v' w6 q1 q2 q3
        have hc2 := hI2.cnt
        have hc1 := hI.cnt
        refine ⟨_, F', _, ?_, r2, hI2, r3, by simp; omega, fun b hb => r1 b (hF b hb), hb2.trans (Only.below hon fun b hb => ⟨Nat.lt_of_lt_of_le hb hb2.size, fun e => ?_⟩)⟩
        · rw [hc2]; simp; omega
        · have h1 := hAll2.own b e
          obtain ⟨vs', _, o2, _⟩ := hAll2.ex
          have := (o2.lt b e).1
          omega
      have hvf : ∃ va vc, u11 = .slice va all.length vc := by
        obtain ⟨vs', _, o2, _⟩ := hAll.ex
        rcases isRow_of_owns o2 with ⟨rfl, e, _⟩ | ⟨g, cap, o, rfl, _⟩
        · exact ⟨none, 0, by rw [e]⟩
        · exact ⟨_, _, rfl⟩
      have hal9 : all.length ≤ 60 := by omega
      rcases hI.act a with ⟨g1, g2⟩ | ⟨g1, g2⟩
      · rw [g1] at hAct
        have hAct' : Calls Try.prog 9 #[ptr nb, .agg #[.int .i64 a.kind, .int .i64 a.site, .int .i64 a.n, av], .int .i64 N.count] wr fun e w' => e = .returned (.int .i64 N.count) ∧ Runs w1 w' (tame l) nb (k + 1) (.int .i64 N.count) u11 := by
          refine hAct.mono ?_
          rintro e w' ⟨rfl, hO2, hk2⟩
          have hc2 := g2.cnt
          have hc1 := hI.cnt
          exact ⟨rfl, _, F, all, by rw [hc2, hc1], hO2, g2, hAll.kept (fun b hb => hO.lt hb) hk2, by omega, hF, hBw.trans (Only.below hk2 fun b hb => ⟨Nat.lt_of_lt_of_le hb hBw.size, fun e => e (hF b hb)⟩)⟩
        unfold ptr at hAct'
        have HAct := Lib.hid hAct'
        clear hAct hAct' hpo hvf g1 g2 hO hI hAll hal hal9 hF hBw hbw e0 e1 e2 e3 hmv hact
        generalize N.count = cn at *
        go_wp2_with (first
          | (go_at_call 9; refine HAct.out.mono ?_; rintro e w' ⟨rfl, hR⟩; have HR := Lib.hid hR; clear hR)
          | go_in)
        go_roundw
        case rel => exact ⟨k + 1, by go_num, by omega, by omega, HR.out⟩
        case measure => simp [intOf]; omega
      · rw [g1] at hAct
        have hAct' : Calls Try.prog 9 #[ptr nb, .agg #[.int .i64 a.kind, .int .i64 a.site, .int .i64 a.n, av], .int .i64 N.count] wr fun e w2 => e = .returned (.int .i64 (N.count + 1)) ∧ w2.cell? ⟨(ad.add (k * 4)).block, (ad.add (k * 4)).off + 3, none⟩ = some av ∧ Calls Try.prog 10 #[av] w2 fun e w5 => ∃ u, e = .returned u ∧ (∃ ua un uc, u = .slice ua un uc) ∧
          ∃ vs, (w5.alloc (.cells #[u] 32)).ownsRow w1.heap.size 32 1 u11 all.length vs ∧ w1.heap.size ≤ (w5.alloc (.cells #[u] 32)).heap.size ∧
            ∀ v' w6, w6.ownsRow w1.heap.size 32 1 v' (all.length + 1) (vs ++ [u]) → (w5.alloc (.cells #[u] 32)).grownBy w6 u11.ownBlock → (v'.ownBlock = u11.ownBlock ∨ v'.ownBlock = some (w5.alloc (.cells #[u] 32)).heap.size) →
              Runs w1 w6 (tame l) nb (k + 1) (.int .i64 (N.count + 1)) v' := by
          refine hAct.mono ?_
          rintro e w2 ⟨rfl, hO2, hk2⟩
          have := hpo w2 hk2 hO2 g2
          exact ⟨rfl, this.1, this.2⟩
        unfold ptr at hAct'
        have HAct := Lib.hid hAct'
        obtain ⟨va, vc, rfl⟩ := hvf
        clear hAct hAct' hpo g1 g2 hO hI hAll hF hBw hbw e0 e1 e2 e3 hmv hact
        generalize N.count = cn at *
        generalize all.length = an at *
        go_wp2_with (first
          | (go_at_call 9; refine HAct.out.mono ?_; rintro e w2 ⟨rfl, b3, hP⟩; have HP := Lib.hid hP; clear hP)
          | (go_at_call 10; refine HP.out.mono ?_; rintro e w5 ⟨u, rfl, ⟨ua, un, uc, rfl⟩, vs, hvs, hsz, hend⟩; have HVS := Lib.hid hvs; have HEnd := Lib.hid hend; clear hvs hend)
          | (at_builtin; refine wpList_append_own_at _ rfl _ _ 30 rfl w1.heap.size 32 i0 _ 1 24 Try.underlying30 hi hz0 hz1 hz2 rfl (by decide) _ _ _ rfl HVS.out ⟨w5.heap.size, 0, none⟩ 1 1 [.slice ua un uc] rfl rfl (new_cells w5 _ _) (fun u hu => by rw [List.mem_singleton.1 hu]; rfl) (by unfold maxLen; omega) (by omega) hsz ?_)
          | go_in)
        intro v' w6 hown hg6 _ hloc
        have HR := Lib.hid (HEnd.out v' w6 hown hg6 (hloc.imp id fun e => e.trans (by show _ = some (w5.heap.push _).size; rw [Array.size_push])))
        clear hown hg6 hloc
        go_wp2
        go_roundw
        case rel => exact ⟨k + 1, by go_num, by omega, by omega, HR.out⟩
        case measure => simp [intOf]; omega
    · have hexit : k = bn ∨ k = 60 := by omega
      have hbw : Below w.heap.size w wr := HB1.out.trans (hBw.mono HB1.out.size)
      have hcalm := calm_any hO hI (by omega) hbw (fun b hb => hF b (Nat.lt_of_lt_of_le hb HB1.out.size)) HD.out
      have hcnt := hI.cnt
      obtain ⟨va, vc, rfl⟩ : ∃ va vc, u11 = .slice va all.length vc := by
        obtain ⟨vs', _, o2, _⟩ := hAll.ex
        rcases isRow_of_owns o2 with ⟨rfl, e, _⟩ | ⟨g, cap, o, rfl, _⟩
        · exact ⟨none, 0, by rw [e]⟩
        · exact ⟨_, _, rfl⟩
      have hcalm' : Calls Try.prog 11 #[ptr nb, .slice od dn dc] wr fun e w3 => ∃ b1 b2, e = .returned (.tuple #[.bool b1, .bool b2]) ∧ Below w.heap.size w w3 ∧ (b2 = true ∨ (b1 = true ∧ b2 = false ∧
          Calls Try.prog 13 #[ptr nb] w3 fun e w4 => e = .returned (.bool true) ∧ Below w.heap.size w w4 ∧
            (Calls Try.prog 14 #[ptr nb] w4 fun e w' => e = .returned (.int .i64 (tame l).sum) ∧ w4 = w') ∧
            (Calls Try.prog 15 #[.slice (some ⟨g, 0, none⟩) L5 c] w4 fun e w' => e = .returned (.int .i64 (tame l).sum) ∧ w4 = w') ∧
            ∀ (t : Nat) (P : List Move), all[t]? = some P → ∃ (g1 g2 c2 : Nat) (ok : Bool), va = some ⟨g1, 0, none⟩ ∧ P.length ≤ 8 ∧ 0 < P.length ∧ ∀ wr, Below w4.heap.size w4 wr → wr.cell? ⟨g1, t, none⟩ = some (.slice (some ⟨g2, 0, none⟩) P.length c2) ∧
              ∀ (j : Nat) (p : Move), P[j]? = some p → wr.cell? ⟨g2, j * 2, none⟩ = some (.int .i64 p.site) ∧
                Calls Try.prog 16 #[ptr nb, .int .i64 p.site, .int .i64 ((t : Int) + 1)] wr fun e w' => ∃ z : Int, e = .returned (.int .i64 z) ∧ (ok = true → z = 2) ∧ (ok = false → z ≠ 2) ∧ Below w4.heap.size w4 w')) := by
        refine hcalm.mono ?_
        rintro e w3 ⟨b1, b2, N', rfl, hk3, hO3, hor⟩
        have hb3 : Below w1.heap.size w1 w3 := hBw.trans (Only.below hk3 fun b hb => ⟨Nat.lt_of_lt_of_le hb hBw.size, fun e => e (hF b hb)⟩)
        have hAll3 := hAll.kept (fun b hb => hO.lt hb) hk3
        refine ⟨b1, b2, rfl, HB1.out.trans (hb3.mono HB1.out.size), hor.imp id fun ⟨e1, e2, hm, hI3⟩ => ⟨e1, e2, ?_⟩⟩
        have hst := ownF_settled hO3
        rw [end_settled hI3 hm] at hst
        refine hst.mono ?_
        rintro e w4 ⟨rfl, hb4⟩
        have hO4 := hO3.below hb4
        have hb14 : Below w1.heap.size w1 w4 := hb3.trans (hb4.mono hb3.size)
        have hAll4 := hAll3.kept (fun b hb => hO3.lt hb) (Keep.of_below hb4)
        refine ⟨rfl, HB1.out.trans (hb14.mono HB1.out.size), ?_, ?_, fun t P ht => ?_⟩
        · have := sum_any hO4 hI3.ok
          rwa [show N'.stocks.sum = (tame l).sum from end_sum hI3 hm] at this
        · obtain ⟨o, ho, hr⟩ := HO1.out
          rw [← hL5] at hr ⊢
          refine total_any ((hb14.block g hg1).trans ho) hr (by omega) fun x hx => ?_
          have h1 := (tame_ok l).1
          unfold okNew at h1
          simp only [Bool.and_eq_true, List.all_eq_true] at h1
          have h2 := h1.2 x hx
          unfold okStock at h2
          simp only [Bool.and_eq_true, decide_eq_true_eq] at h2
          omega
        · have hPo := hI3.val P (List.mem_of_getElem? ht)
          obtain ⟨vs, o1, o2, o3⟩ := hAll4.ex
          obtain ⟨u, q1, q2, q3⟩ := o3 t P ht
          have htl := (List.getElem?_eq_some_iff.1 ht).1
          have hpl := List.length_pos_iff.2 hPo.ne
          obtain ⟨g1, cap1, ob1, ev, _, hob1, hr1⟩ : ∃ g1 cap1 ob1, (.slice va all.length vc : Value) = .slice (some ⟨g1, 0, none⟩) all.length cap1 ∧ w1.heap.size ≤ g1 ∧ w4.heap[g1]? = some ob1 ∧ IsRow 32 1 all.length cap1 vs ob1 := by
            rcases isRow_of_owns o2 with ⟨_, e, _⟩ | h
            · omega
            · exact h
          obtain ⟨g2, cap2, ob2, rfl, _, hob2, hr2⟩ : ∃ g2 cap2 ob2, u = .slice (some ⟨g2, 0, none⟩) P.length cap2 ∧ w1.heap.size ≤ g2 ∧ w4.heap[g2]? = some ob2 ∧ IsRow 43 2 P.length cap2 (P.flatMap Move.cells) ob2 := by
            rcases isRow_of_owns q2 with ⟨_, e, _⟩ | h
            · omega
            · exact h
          have hva : va = some ⟨g1, 0, none⟩ := by cases ev; rfl
          obtain ⟨ok, hok1, hok2⟩ : ∃ ok : Bool, (ok = true → ∀ p ∈ P, N'.outcome p.site (t + 1) = 2) ∧ (ok = false → ∀ p ∈ P, N'.outcome p.site (t + 1) ≠ 2) := by
            rcases end_count hI3 hm ht with h | h
            · exact ⟨true, fun _ => h, fun e => by cases e⟩
            · exact ⟨false, (fun e => by cases e), fun _ => h⟩
          refine ⟨g1, g2, cap2, ok, hva, hPo.len, hpl, fun wr hbr => ⟨?_, fun j p hj => ⟨?_, ?_⟩⟩⟩
          · exact hr1.cell ((hbr.block g1 (lt_of hob1)).trans hob1) (j := t) q1
          · exact hr2.cell ((hbr.block g2 (lt_of hob2)).trans hob2) (j := j * 2) (by rw [show j * 2 = j * 2 + 0 from rfl, get_flat (fun x _ => Move.cells2 x) (by decide), hj]; rfl)
          · have hc3 := hI3.cnt
            have hc4 := hI3.ok.count
            refine (ownF_outcome (hO4.below hbr) p.site (tx := (t : Int) + 1) (by unfold i64; omega)).mono ?_
            rintro e w' ⟨rfl, hb⟩
            have hpm := List.mem_of_getElem? hj
            exact ⟨_, rfl, fun e => hok1 e p hpm, fun e => hok2 e p hpm, hbr.trans (hb.mono hbr.size)⟩
      unfold ptr at hcalm'
      have HC := Lib.hid hcalm'
      have HB := Lib.hid hbw
      have hal2 : all.length ≤ 60 := by omega
      have HLen : Hid (∀ t, t < all.length → ∃ P, all[t]? = some P) := fun t ht => ⟨all[t], List.getElem?_eq_getElem ht⟩
      clear hcalm hcalm' hO hI hAll hF hBw hbw hal
      rw [hcnt]
      clear hcnt
      generalize all.length = an at *
      have hsplit : (k < bn ∧ ¬ k < 60) ∨ ¬ k < bn := by omega
      clear hexit hlt
      rcases hsplit with ⟨hx1, hx2⟩ | hx1
      all_goals
        go_wp2_with (first
          | (go_at_call 11; refine HC.out.mono ?_; rintro e w3 ⟨b1, b2, rfl, hb3, hor⟩; have HB3 := Lib.hid hb3; clear hb3; rcases hor with rfl | ⟨rfl, rfl, hS⟩)
          | (go_at_call 12; refine (awake_any _).mono ?_; rintro e w' ⟨rfl, hb⟩)
          | (go_at_call 13; refine hS.mono ?_; rintro e w4 ⟨rfl, hb4, hsum, htot, hall⟩; have HB4 := Lib.hid hb4; have HSum := Lib.hid hsum; have HTot := Lib.hid htot; have HAll := Lib.hid hall; clear hb4 hsum htot hall hS)
          | (go_at_call 14; refine HSum.out.mono ?_; rintro e w' ⟨rfl, rfl⟩)
          | (go_at_call 15; refine HTot.out.mono ?_; rintro e w' ⟨rfl, rfl⟩)
          | go_in)
        · go_ret
          exact ⟨rfl, HB3.out.trans (hb.mono HB3.out.size)⟩
        · clear HSum HTot HB3 HC HB HO1 HA HD HT HAL
          go_loopw [16] (fun i wr => ∃ t : Nat, i = .int .i64 ((t : Int) + 1) ∧ t ≤ an ∧ Below w4.heap.size w4 wr) (fun i _ => an + 1 - (intOf i).toNat)
          case atStart => exact ⟨0, rfl, Nat.zero_le _, Below.refl _ _⟩
          case round =>
            obtain ⟨t, rfl, ht, hBr⟩ := hrel
            by_cases htl : t < an
            · obtain ⟨P, hP⟩ := HLen.out t htl
              obtain ⟨g1, g2, c2, ok, rfl, hpl, hp0, hrow⟩ := HAll.out t P hP
              have hc0 := (hrow wr hBr).1
              have HRow := Lib.hid hrow
              have HBr := Lib.hid hBr
              obtain ⟨pn, hpn⟩ : ∃ pn, P.length = pn := ⟨_, rfl⟩
              rw [hpn] at hpl hp0 hc0
              have HPn := Lib.hid hpn
              clear hrow hBr hpn
              rcases Bool.eq_false_or_eq_true ok with hok | hok <;> have HOk := Lib.hid hok <;> clear hok
              · go_wp2
                try rw [show decide ((t : Int) + 1 ≤ (an : Int)) = true from decide_eq_true (by omega)]
                go_loopw [17, 18] (fun kv j wr => ∃ (q : Nat) (sv : Int), j = .int .i64 q ∧ q ≤ pn ∧ kv = .int .i64 sv ∧ sv = q ∧ Below w4.heap.size w4 wr) (fun _ j _ => pn - (intOf j).toNat)
                case atStart => exact ⟨0, 0, rfl, Nat.zero_le _, rfl, rfl, HBr.out⟩
                case round =>
                  obtain ⟨q, sv, rfl, hq, rfl, hsv, hBq⟩ := hrel
                  obtain ⟨hc1, hcs⟩ := HRow.out wr hBq
                  rw [HPn.out] at hc1
                  by_cases hql : q < pn
                  · obtain ⟨p, hp⟩ : ∃ p, P[q]? = some p := ⟨P[q]'(by rw [HPn.out]; exact hql), by simp⟩
                    obtain ⟨hc2, hOut⟩ := hcs q p hp
                    have HOut := Lib.hid hOut
                    clear hcs hOut hp hBq
                    go_wp2_with (first
                      | (go_at_call 16; refine HOut.out.mono ?_; rintro e w' ⟨z, rfl, hz1, hz2, hB'⟩; obtain rfl : z = 2 := hz1 HOk.out; clear hz1 hz2; have HB' := Lib.hid hB'; clear hB')
                      | go_in)
                    go_roundw
                    case rel => exact ⟨q + 1, sv + 1, by go_num, by omega, by go_num, by omega, HB'.out⟩
                    case measure => simp [intOf]; omega
                  · have hqe : q = pn := by omega
                    subst hqe
                    have HBq := Lib.hid hBq
                    clear hcs hBq
                    go_wp2
                    go_roundw
                    case rel => exact ⟨t + 1, by go_num, by omega, HBq.out⟩
                    case measure => simp [intOf]; omega
              · go_wp2
                try rw [show decide ((t : Int) + 1 ≤ (an : Int)) = true from decide_eq_true (by omega)]
                go_loopw [17, 18] (fun kv j wr => ∃ q : Nat, j = .int .i64 q ∧ q ≤ pn ∧ kv = .int .i64 0 ∧ Below w4.heap.size w4 wr) (fun _ j _ => pn - (intOf j).toNat)
                case atStart => exact ⟨0, rfl, Nat.zero_le _, rfl, HBr.out⟩
                case round =>
                  obtain ⟨q, rfl, hq, rfl, hBq⟩ := hrel
                  obtain ⟨hc1, hcs⟩ := HRow.out wr hBq
                  rw [HPn.out] at hc1
                  by_cases hql : q < pn
                  · obtain ⟨p, hp⟩ : ∃ p, P[q]? = some p := ⟨P[q]'(by rw [HPn.out]; exact hql), by simp⟩
                    obtain ⟨hc2, hOut⟩ := hcs q p hp
                    have HOut := Lib.hid hOut
                    clear hcs hOut hp hBq
                    go_wp2_with (first
                      | (go_at_call 16; refine HOut.out.mono ?_; rintro e w' ⟨z, rfl, hz1, hz2, hB'⟩; have hz : (z == 2) = false := (by simpa using hz2 HOk.out); clear hz1 hz2; have HB' := Lib.hid hB'; clear hB')
                      | go_in)
                    go_roundw
                    case rel => exact ⟨q + 1, by go_num, by omega, rfl, HB'.out⟩
                    case measure => simp [intOf]; omega
                  · have hqe : q = pn := by omega
                    subst hqe
                    have HBq := Lib.hid hBq
                    clear hcs hBq
                    go_wp2
                    go_roundw
                    case rel => exact ⟨t + 1, by go_num, by omega, HBq.out⟩
                    case measure => simp [intOf]; omega
            · have HBr := Lib.hid hBr
              clear hBr
              go_wp2_with (first
                | (go_at_call 12; refine (awake_any _).mono ?_; rintro e w' ⟨rfl, hb⟩)
                | go_in)
              go_ret
              exact ⟨rfl, HB4.out.trans ((HBr.out.trans (hb.mono HBr.out.size)).mono HB4.out.size)⟩
end Go.Proofs.Ytfmfgckfeojfcaa
