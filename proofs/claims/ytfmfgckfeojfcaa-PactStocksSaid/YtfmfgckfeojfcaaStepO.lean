/- Walks of package pact: valid. -/
import Derived.Test.YtfmfgckfeojfcaaStepN
set_option linter.unusedSimpArgs false
set_option linter.unusedVariables false
namespace Go.Proofs.Ytfmfgckfeojfcaa
open Go.RowKit Go.Maps Go.ChangeMaps

theorem has_put (y k : Int) (m : List (Int × Unit)) : AL.has y (AL.put k () m) = (decide (k = y) || AL.has y m) := by
  rw [Bool.eq_iff_iff]
  simp only [AL.has_iff, AL.mem_put, Bool.or_eq_true, decide_eq_true_eq]
  constructor
  · rintro ⟨p, rfl | ⟨h1, h2⟩, h3⟩
    · exact .inl h3
    · exact .inr ⟨p, h1, h3⟩
  · rintro (rfl | ⟨p, h1, h2⟩)
    · exact ⟨_, .inl rfl, rfl⟩
    · by_cases e : p.1 = k
      · exact ⟨_, .inl rfl, by rw [← e]; exact h2⟩
      · exact ⟨p, .inr ⟨h1, e⟩, h2⟩
theorem MapObj.putSet {m : List (Int × Unit)} {o : Obj} (hM : MapObj okI (Value.int .i64) (setV m) o) {k : Int} (hk : i64 k) (hlen : m.length ≤ 1000) (b : Nat) : ∃ o', MapObj okI (Value.int .i64) (setV (AL.put k () m)) o' ∧
    ∀ W1 : World, W1.heap[b]? = some o → (Instr.mapUpdate 61 (.map (some b)) (.int .i64 k) (.bool true)).run Try.prog W1 = .ok () (setBlock W1 b o') := by
  obtain ⟨o', hM', hrun⟩ := hM.update (b := b) keyI encI_inj Try.underlying61 (okI_of hk) (.bool true) (by simp [setV, maxLen]; omega) (AL.put_perm k _ (setV m))
  rw [put_setV] at hM'
  exact ⟨o', hM', hrun⟩

/-- What valid's round asks of a part. -/
def okPart (n : Int) (m : List (Int × Unit)) (x : Move) : Bool := (decide (0 ≤ x.site) && decide (x.site ≤ n - 1)) && !AL.has x.site m && !decide (x.change = 0) && (decide (-1099511627776 ≤ x.change) && decide (x.change ≤ 1099511627776))
theorem validGo_cons (n : Int) (x : Move) (r : List Move) (seen : List Int) (m : List (Int × Unit)) (hm : ∀ y, AL.has y m = seen.any fun x => decide (x = y)) (sum : Int) :
    Net.validGo n (x :: r) seen sum = if okPart n m x = true then Net.validGo n r (x.site :: seen) (sum + x.change) else false := by
  unfold okPart
  rw [hm]
  rfl

set_option maxRecDepth 20000 in
set_option maxHeartbeats 6000000 in
theorem valid_any {w : World} {L : Lay} {N : Net} (h : Rep w L N) (hok : N.Ok) {pb cap : Nat} {ps : List Move} (hp : PartsAt w (pb, cap) ps) (hpl : ps.length ≤ 64) :
    Calls Try.prog 32 #[netPtr L, .slice (some ⟨pb, 0, none⟩) ps.length cap] w fun e w' => e = .returned (.bool (N.valid ps)) ∧ Below w.heap.size w w' := by
  have c0 := h.net0
  have hnl := h.netLt
  have h8 := hok.eight
  have hmk : ∀ A, (Instr.makeMap 61 none).run Try.prog A = .ok (.map (some A.heap.size)) (A.alloc (.map #[] 0)) := run_makeBools
  obtain ⟨r, hr⟩ : ∃ r, N.valid ps = r := ⟨_, rfl⟩
  rw [hr]
  have hrr : r = (decide (0 < ps.length) && Net.validGo N.sites.length ps [] 0) := by rw [← hr]; rfl
  have hplt : pb < w.heap.size := by obtain ⟨o, ho, _⟩ := hp; exact lt_of ho
  generalize hsl : N.sites.length = sn at *
  obtain ⟨n, hn⟩ : ∃ n, ps.length = n := ⟨_, rfl⟩
  rw [hn] at hpl hrr ⊢
  have HN := Lib.hid hn
  have HP := Lib.hid hp
  have HR := Lib.hid hrr
  unfold netPtr
  clear hn hp hrr hr h hok hsl
  go_enter Try.func32, Try.ntmps32
  go_wp2
  go_loopw [5, 12] (fun sm i wr => ∃ (k : Nat) (S : Int) (seen : List Int) (m : List (Int × Unit)) (o : Obj), i = .int .i64 k ∧ sm = .int .i64 S ∧ k ≤ n ∧ -(k * 1099511627776 : Int) ≤ S ∧ S ≤ k * 1099511627776 ∧ m.length ≤ k ∧
    (AL.keys m).Nodup ∧ (∀ y, AL.has y m = seen.any fun x => decide (x = y)) ∧ wr.heap[w.heap.size]? = some o ∧ MapObj okI (Value.int .i64) (setV m) o ∧ Below w.heap.size w wr ∧ Net.validGo sn (ps.drop k) seen S = Net.validGo sn ps [] 0) (fun sm i _ => n - (intOf i).toNat)
  case atStart => exact ⟨0, 0, [], [], _, rfl, rfl, Nat.zero_le _, by omega, by omega, Nat.le_refl _, List.nodup_nil, fun _ => rfl, alloc_same w _, mapObj_empty, (Below.refl _ w).alloc (Nat.le_refl _) _, rfl⟩
  case round =>
    obtain ⟨k, S, seen, m, o, rfl, rfl, hk, hS1, hS2, hml, hmn, hseen, ho, hM, hB, hgo⟩ := hrel
    by_cases hlt : k < n
    · have hk' : k < ps.length := by rw [HN.out]; exact hlt
      obtain ⟨x, hx⟩ : ∃ x, ps[k]? = some x := ⟨ps[k], by simp⟩
      have hdrop : ps.drop k = x :: ps.drop (k + 1) := by
        have := List.drop_eq_getElem_cons hk'
        rw [List.getElem?_eq_getElem hk'] at hx
        cases hx
        exact this
      rw [hdrop, validGo_cons sn x _ seen m hseen] at hgo
      have hpr : PartsAt wr (pb, cap) ps := by
        obtain ⟨o, ho, hr⟩ := HP.out
        exact ⟨o, (hB.block pb hplt).trans ho, hr⟩
      have p0 := hpr.cell0 hx
      have p1 := hpr.cell1 hx
      have cn : wr.cell? ⟨L.at_ .net, 0, none⟩ = some (.slice (some ⟨L.at_ .sites, 0, none⟩) sn L.scap) := by rw [← c0]; simp [World.cell?, hB.block _ hnl]
      have hpl2 : pb < wr.heap.size := Nat.lt_of_lt_of_le hplt hB.size
      have hnl2 : L.at_ .net < wr.heap.size := Nat.lt_of_lt_of_le hnl hB.size
      have hsb := lt_of ho
      obtain ⟨w1, hw1⟩ : ∃ w1, w1 = wr.alloc (.cells #[.int .i64 x.site, .int .i64 x.change] 43) := ⟨_, rfl⟩
      have hbx : w1.heap[wr.heap.size]? = some (.cells #[.int .i64 x.site, .int .i64 x.change] 43 (0, 0)) := by rw [hw1]; exact alloc_same wr _
      have q0 : w1.cell? ⟨wr.heap.size, 0, none⟩ = some (.int .i64 x.site) := cell_of hbx rfl
      have q1 : w1.cell? ⟨wr.heap.size, 1, none⟩ = some (.int .i64 x.change) := cell_of hbx rfl
      have cn1 : w1.cell? ⟨L.at_ .net, 0, none⟩ = some (.slice (some ⟨L.at_ .sites, 0, none⟩) sn L.scap) := by rw [← cn, hw1]; simp [World.cell?, alloc_other wr _ hnl2]
      have ho1 : w1.heap[w.heap.size]? = some o := by rw [hw1]; exact (alloc_other wr _ hsb).trans ho
      have hb1b : Below w.heap.size w w1 := by rw [hw1]; exact hB.alloc (by have := hB.size; omega) _
      obtain ⟨xs, xc⟩ := x
      simp only at p0 p1 hbx q0 q1 hgo
      have hbne : wr.heap.size ≠ w.heap.size := by omega
      have HW1 := Lib.hid hw1
      have HWr : Hid (IntKind.i64.wrap ((sn : Int) - 1) = (sn : Int) - 1) := by show _ = _; rw [IntKind.wrap_i64]; omega
      have HG := Lib.hid hgo
      clear hw1 hgo hdrop hpr hx
      cases hb1 : (decide ((0 : Int) ≤ xs) && decide (xs ≤ (sn : Int) - 1)) with
      | false =>
        have HA : Hid (r = false) := by
          show r = false
          rw [HR.out, ← HG.out]; unfold okPart; simp only [hb1]; simp
        have HB1 := Lib.hid hb1
        have HBe : Hid (Below w.heap.size w w1.drew) := hb1b.drew
        clear hb1 hb1b HG hM
        go_wp2
        rw [← HW1.out]
        clear hmk c0 p0 p1 cn hnl2 hpl2 hsb hnl h8 hplt hmn hS1 hS2 hml hk hbx
        first | go_region_with ((try rw [HWr.out]); refine (within_any _ _ _ _).mono ?_; rintro e w' ⟨rfl, rfl⟩; rw [HB1.out]) | fail
        go_wp2
        all_goals (go_ret; exact ⟨by rw [HA.out] <;> rfl, HBe.out⟩)
      | true =>
      have hi1 : i64 xs := by simp at hb1; unfold i64; omega
      have HB1 := Lib.hid hb1
      have hlk := looks ho1 (fun W hW => hM.lookSet hi1 w.heap.size W hW)
      cases hb2 : AL.has xs m with
      | true =>
        have HA : Hid (r = false) := by
          show r = false
          rw [HR.out, ← HG.out]; unfold okPart; simp only [hb2]; simp
        have HBe : Hid (Below w.heap.size w w1.drew) := hb1b.drew
        rw [hb2] at hlk
        clear hb1 hb1b HG hM hb2
        go_wp2
        rw [← HW1.out]
        clear hmk c0 p0 p1 cn hnl2 hpl2 hsb hnl h8 hplt hmn hS1 hS2 hml hk hbx
        first | go_region_with ((try rw [HWr.out]); refine (within_any _ _ _ _).mono ?_; rintro e w' ⟨rfl, rfl⟩; rw [HB1.out]) | fail
        go_wp2
        all_goals (go_ret; exact ⟨by rw [HA.out] <;> rfl, HBe.out⟩)
      | false =>
      rw [hb2] at hlk
      by_cases hb3 : xc = 0
      · have HA : Hid (r = false) := by
          show r = false
          rw [HR.out, ← HG.out]; unfold okPart; simp [hb3]
        have HBe : Hid (Below w.heap.size w w1.drew) := hb1b.drew
        have hz : (xc == 0) = true := by simpa using hb3
        clear hb1 hb1b HG hM hb2 hb3
        go_wp2
        rw [← HW1.out]
        clear hmk c0 p0 p1 cn hnl2 hpl2 hsb hnl h8 hplt hmn hS1 hS2 hml hk hbx
        first | go_region_with ((try rw [HWr.out]); refine (within_any _ _ _ _).mono ?_; rintro e w' ⟨rfl, rfl⟩; rw [HB1.out]) | fail
        go_wp2
        all_goals (go_ret; exact ⟨by rw [HA.out] <;> rfl, HBe.out⟩)
      have hz : (xc == 0) = false := by simpa using hb3
      cases hb4 : (decide ((-1099511627776 : Int) ≤ xc) && decide (xc ≤ 1099511627776)) with
      | false =>
        have HA : Hid (r = false) := by
          show r = false
          rw [HR.out, ← HG.out]; unfold okPart; simp only [hb4]; simp
        have HBe : Hid (Below w.heap.size w w1.drew) := hb1b.drew
        have HB4 := Lib.hid hb4
        clear hb1 hb1b HG hM hb2 hb3 hb4
        go_wp2
        rw [← HW1.out]
        clear hmk c0 p0 p1 cn hnl2 hpl2 hsb hnl h8 hplt hmn hS1 hS2 hml hk hbx
        first | go_region_with ((try rw [HWr.out]); refine (within_any _ _ _ _).mono ?_; rintro e w' ⟨rfl, rfl⟩; first | rw [HB1.out] | rw [HB4.out]) | fail
        go_wp2
        all_goals (go_ret; exact ⟨by rw [HA.out] <;> rfl, HBe.out⟩)
      | true =>
        obtain ⟨o', hM', hrun⟩ := hM.putSet hi1 (by omega) w.heap.size
        have hcc : -1099511627776 ≤ xc ∧ xc ≤ 1099511627776 := by simpa using hb4
        have hgo2 : Net.validGo sn (ps.drop (k + 1)) (xs :: seen) (S + xc) = Net.validGo sn ps [] 0 := by
          rw [← HG.out]
          unfold okPart
          simp only [hb1, hb2, hb4]
          simp [hb3]
        obtain ⟨w3, hw3, r1, hfin⟩ : ∃ w3, w3 = setBlock w1.drew w.heap.size o' ∧ w3.cell? ⟨wr.heap.size, 1, none⟩ = some (.int .i64 xc) ∧
            (w3.heap[w.heap.size]? = some o' ∧ MapObj okI (Value.int .i64) (setV (AL.put xs () m)) o' ∧ Below w.heap.size w w3 ∧ (AL.put xs () m).length ≤ k + 1 ∧ (AL.keys (AL.put xs () m)).Nodup ∧
              (∀ y, AL.has y (AL.put xs () m) = (xs :: seen).any fun x => decide (x = y)) ∧ Net.validGo sn (ps.drop (k + 1)) (xs :: seen) (S + xc) = Net.validGo sn ps [] 0) := by
          refine ⟨_, rfl, ?_, heap_setBlock_eq (w := w1.drew) ho1 o', hM', ?_, ?_, AL.nodup_put hmn, fun y => ?_, hgo2⟩
          · rw [← q1]; simp only [World.cell?]; rw [heap_setBlock_ne w1.drew o' hbne]; rfl
          · exact ⟨hb1b.os, hb1b.tape, hb1b.output, by simp [setBlock]; exact hb1b.size, fun b hb => by rw [heap_setBlock_ne w1.drew o' (by omega)]; exact hb1b.block b hb⟩
          · have := AL.length_put_le xs () hmn; omega
          · rw [has_put, hseen]; rfl
        have hru := hrun w1.drew ho1
        have HW3 := Lib.hid hw3
        have HRu := Lib.hid hru
        have HF := Lib.hid hfin
        have HB4 := Lib.hid hb4
        clear hb1 hb1b HG hM hb2 hb3 hb4 hM' hrun hru hw3 hfin hgo2 hseen
        go_wp2
        rw [← HW1.out]
        clear hmk c0 p0 p1 cn hnl2 hpl2 hsb hnl h8 hplt hmn hbx
        first | go_region_with ((try rw [HWr.out]); refine (within_any _ _ _ _).mono ?_; rintro e w' ⟨rfl, rfl⟩; first | rw [HB1.out] | rw [HB4.out]) | fail
        all_goals
          go_wp2_with (first | (at_mapUpdate; refine wpList_mapUpdate_to rfl _ _ _ _ rfl rfl rfl rfl _ HRu.out ?_; rw [← HW3.out]; clear q1) | go_in)
          go_roundw
          case rel =>
            obtain ⟨f1, f2, f3, f4, f5, f6, f7⟩ := HF.out
            exact ⟨k + 1, S + xc, xs :: seen, _, o', by go_num, rfl, by omega, by omega, by omega, f4, f5, f6, f1, f2, f3, f7⟩
          case measure => simp [intOf]; omega
    · have hkn : k = n := by omega
      subst hkn
      have hd : ps.drop k = [] := List.drop_of_length_le (by rw [HN.out]; exact Nat.le_refl _)
      have HA : Hid (r = (decide (0 < k) && decide (S = 0))) := by
        show r = _
        rw [HR.out, ← hgo, hd]; rfl
      have HBe := Lib.hid hB
      clear hgo hd hM hB hseen
      by_cases h0 : 0 < k
      · have h0' : decide (0 < k) = true := by simpa using h0
        by_cases hs0 : S = 0
        · have hz : (S == 0) = true := by simpa using hs0
          have HA2 : Hid (r = true) := by show r = true; rw [HA.out]; simp [h0, hs0]
          clear hs0
          go_wp2
          all_goals (go_ret; exact ⟨by rw [HA2.out] <;> rfl, HBe.out⟩)
        · have hz : (S == 0) = false := by simpa using hs0
          have HA2 : Hid (r = false) := by show r = false; rw [HA.out]; simp [hs0]
          clear hs0
          go_wp2
          all_goals (go_ret; exact ⟨by rw [HA2.out] <;> rfl, HBe.out⟩)
      · have hk0 : k = 0 := by omega
        subst hk0
        have HA2 : Hid (r = false) := by show r = false; rw [HA.out]; simp
        clear h0
        go_wp2
        all_goals (go_ret; exact ⟨by rw [HA2.out] <;> rfl, HBe.out⟩)
end Go.Proofs.Ytfmfgckfeojfcaa
