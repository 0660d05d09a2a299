/- The walk of PactVoid. -/
import Derived.Test.YtfmfgckfeojfcaaLawA
set_option linter.unusedSimpArgs false
set_option linter.unusedVariables false
namespace Go.Proofs.Ytfmfgckfeojfcaa
open Go.RowKit Go.Maps Go.ChangeMaps

theorem Void.below {w w' : World} {p : Value} (h : Void w p) (hb : Below w.heap.size w w') : Void w' p := by
  rcases h with rfl | ⟨nb, rfl, ho⟩
  · exact .inl rfl
  · exact .inr ⟨nb, rfl, (hb.block nb (lt_of ho)).trans ho⟩
theorem MovesIn.below {w w' : World} {v : Value} {ps : List Move} (h : MovesIn w v ps) (hb : Below w.heap.size w w') : MovesIn w' v ps := by
  rcases h with h | ⟨ad, c, e, h1, h2, h3⟩
  · exact .inl h
  · refine .inr ⟨ad, c, e, h1, h2, fun j u hu => ?_⟩
    have := h3 j u hu
    have hlt : (ad.add j).block < w.heap.size := by
      rcases Nat.lt_or_ge (ad.add j).block w.heap.size with h | h
      · exact h
      · simp [World.cell?, Array.getElem?_eq_none h] at this
    exact (World.cell?_of_block (hb.block _ hlt)).trans this

set_option maxRecDepth 20000 in
set_option maxHeartbeats 8000000 in
/-- The whole law. -/
theorem pactVoid_any {w : World} {kind site n : Int} {v : Value} {ps : List Move} (h : MovesIn w v ps) : Calls Try.prog 5 #[.agg #[.int .i64 kind, .int .i64 site, .int .i64 n, v]] w fun e w' => e = .returned (.bool true) ∧ Below w.heap.size w w' := by
  obtain ⟨w0, hw0⟩ : ∃ w0, w0 = w.alloc (.cells #[.int .i64 kind, .int .i64 site, .int .i64 n, v] 34) := ⟨_, rfl⟩
  have hbox : w0.heap[w.heap.size]? = some (.cells #[.int .i64 kind, .int .i64 site, .int .i64 n, v] 34 (0, 0)) := by rw [hw0]; exact alloc_same w _
  have hb0 : Below w.heap.size w w0 := by rw [hw0]; exact (Below.refl _ w).alloc (Nat.le_refl _) _
  have HBox := Lib.hid hbox
  have HB0 := Lib.hid hb0
  have HW0 := Lib.hid hw0
  have HMv := Lib.hid h
  have hsz : w.heap.size < w0.heap.size := lt_of hbox
  clear hbox hb0 hw0 h
  go_enter Try.func5, Try.ntmps5
  go_wp2_with fail
  rw [← HW0.out]
  go_loopw [3] (fun i wr => ∃ k : Nat, i = .int .i64 k ∧ k ≤ 2 ∧ Below w0.heap.size w0 wr) (fun i _ => 2 - (intOf i).toNat)
  case atStart => exact ⟨0, rfl, by omega, Below.refl _ _⟩
  case round =>
    obtain ⟨k, rfl, hk, hB⟩ := hrel
    have hbx : wr.heap[w.heap.size]? = some (.cells #[.int .i64 kind, .int .i64 site, .int .i64 n, v] 34 (0, 0)) := (hB.block _ hsz).trans HBox.out
    have hMvr : MovesIn wr v ps := HMv.out.below (HB0.out.trans (hB.mono (by omega)))
    have hbl : w.heap.size < wr.heap.size := lt_of hbx
    have hk3 : k = 0 ∨ k = 1 ∨ k = 2 := by omega
    rcases hk3 with rfl | rfl | rfl
    · have hV : Void wr (.pointer none) := .inl rfl
      have hP : Calls Try.prog 10 #[v] wr.drew fun e w5 => ∃ v', e = .returned v' ∧ w5.cell? ⟨w.heap.size, 1, none⟩ = some (.int .i64 site) ∧ w5.cell? ⟨w.heap.size, 2, none⟩ = some (.int .i64 n) ∧ Void w5 (.pointer none) ∧ Below w0.heap.size w0 w5 ∧ w.heap.size < w5.heap.size := by
        refine (parts_any (hMvr.below (Below.refl _ _).drew)).mono ?_
        rintro e w5 ⟨v', rfl, _, hb⟩
        have hbx5 := (hb.block w.heap.size hbl).trans hbx
        have hb2 := (Below.refl (wr).heap.size (wr)).drew.trans hb
        exact ⟨v', rfl, cell_of hbx5 rfl, cell_of hbx5 rfl, hV.below hb2, hB.trans (hb2.mono hB.size), lt_of hbx5⟩
      have a1 : wr.cell? ⟨w.heap.size, 1, none⟩ = some (.int .i64 site) := cell_of hbx rfl
      have a2 : wr.cell? ⟨w.heap.size, 2, none⟩ = some (.int .i64 n) := cell_of hbx rfl
      have a3 : wr.cell? ⟨w.heap.size, 3, none⟩ = some v := cell_of hbx rfl
      have HV : Hid (Void wr (.pointer none)) := hV
      have HP := Lib.hid hP
      clear hV hP hbx hB hMvr
      go_wp2_with (first | (go_at_call 17; refine (stock_void HV.out _).mono ?_; rintro e w' ⟨rfl, rfl⟩) | (go_at_call 19; refine (up_void HV.out _).mono ?_; rintro e w' ⟨rfl, rfl⟩) | (go_at_call 22; refine (cancel_void HV.out _ _).mono ?_; rintro e w' ⟨rfl, rfl⟩) | (go_at_call 26; refine (tick_void HV.out _).mono ?_; rintro e w' ⟨rfl, rfl⟩) | (go_at_call 27; refine (crash_void HV.out _).mono ?_; rintro e w' ⟨rfl, rfl⟩) | (go_at_call 28; refine (start_void HV.out _).mono ?_; rintro e w' ⟨rfl, rfl⟩) | (go_at_call 16; refine (outcome_void HV.out _ _).mono ?_; rintro e w' ⟨rfl, rfl⟩) | (go_at_call 23; refine (deliver_void HV.out _).mono ?_; rintro e w' ⟨rfl, rfl⟩) | (go_at_call 24; refine (repeat_void HV.out _).mono ?_; rintro e w' ⟨rfl, rfl⟩) | (go_at_call 25; refine (lose_void HV.out _).mono ?_; rintro e w' ⟨rfl, rfl⟩) | (go_at_call 18; refine (begin__void HV.out _ _).mono ?_; rintro e w' ⟨rfl, rfl⟩) | (go_at_call 8; refine (sites_void HV.out).mono ?_; rintro e w' ⟨rfl, rfl⟩) | (go_at_call 20; refine (letters_void HV.out).mono ?_; rintro e w' ⟨rfl, rfl⟩) | (go_at_call 13; refine (settled_void HV.out).mono ?_; rintro e w' ⟨rfl, rfl⟩) | (go_at_call 21; refine (clone_void HV.out).mono ?_; rintro e w' ⟨rfl, rfl⟩) | go_in)
      first | go_region_with (first | (go_at_call 10; refine HP.out.mono ?_; rintro e w5 ⟨v5, rfl, b1, b2, hV5, hB5, hl5⟩; have HV5 := Lib.hid hV5; have HB5 := Lib.hid hB5; clear hV5 hB5) | (go_at_call 17; refine (stock_void HV5.out _).mono ?_; rintro e w' ⟨rfl, rfl⟩) | (go_at_call 19; refine (up_void HV5.out _).mono ?_; rintro e w' ⟨rfl, rfl⟩) | (go_at_call 22; refine (cancel_void HV5.out _ _).mono ?_; rintro e w' ⟨rfl, rfl⟩) | (go_at_call 26; refine (tick_void HV5.out _).mono ?_; rintro e w' ⟨rfl, rfl⟩) | (go_at_call 27; refine (crash_void HV5.out _).mono ?_; rintro e w' ⟨rfl, rfl⟩) | (go_at_call 28; refine (start_void HV5.out _).mono ?_; rintro e w' ⟨rfl, rfl⟩) | (go_at_call 16; refine (outcome_void HV5.out _ _).mono ?_; rintro e w' ⟨rfl, rfl⟩) | (go_at_call 23; refine (deliver_void HV5.out _).mono ?_; rintro e w' ⟨rfl, rfl⟩) | (go_at_call 24; refine (repeat_void HV5.out _).mono ?_; rintro e w' ⟨rfl, rfl⟩) | (go_at_call 25; refine (lose_void HV5.out _).mono ?_; rintro e w' ⟨rfl, rfl⟩) | (go_at_call 18; refine (begin__void HV5.out _ _).mono ?_; rintro e w' ⟨rfl, rfl⟩) | (go_at_call 8; refine (sites_void HV5.out).mono ?_; rintro e w' ⟨rfl, rfl⟩) | (go_at_call 20; refine (letters_void HV5.out).mono ?_; rintro e w' ⟨rfl, rfl⟩) | (go_at_call 13; refine (settled_void HV5.out).mono ?_; rintro e w' ⟨rfl, rfl⟩) | (go_at_call 21; refine (clone_void HV5.out).mono ?_; rintro e w' ⟨rfl, rfl⟩)) | fail
      all_goals
        clear a1 a2 a3
        go_wp2_with (first | (go_at_call 17; refine (stock_void HV5.out _).mono ?_; rintro e w' ⟨rfl, rfl⟩) | (go_at_call 19; refine (up_void HV5.out _).mono ?_; rintro e w' ⟨rfl, rfl⟩) | (go_at_call 22; refine (cancel_void HV5.out _ _).mono ?_; rintro e w' ⟨rfl, rfl⟩) | (go_at_call 26; refine (tick_void HV5.out _).mono ?_; rintro e w' ⟨rfl, rfl⟩) | (go_at_call 27; refine (crash_void HV5.out _).mono ?_; rintro e w' ⟨rfl, rfl⟩) | (go_at_call 28; refine (start_void HV5.out _).mono ?_; rintro e w' ⟨rfl, rfl⟩) | (go_at_call 16; refine (outcome_void HV5.out _ _).mono ?_; rintro e w' ⟨rfl, rfl⟩) | (go_at_call 23; refine (deliver_void HV5.out _).mono ?_; rintro e w' ⟨rfl, rfl⟩) | (go_at_call 24; refine (repeat_void HV5.out _).mono ?_; rintro e w' ⟨rfl, rfl⟩) | (go_at_call 25; refine (lose_void HV5.out _).mono ?_; rintro e w' ⟨rfl, rfl⟩) | (go_at_call 18; refine (begin__void HV5.out _ _).mono ?_; rintro e w' ⟨rfl, rfl⟩) | (go_at_call 8; refine (sites_void HV5.out).mono ?_; rintro e w' ⟨rfl, rfl⟩) | (go_at_call 20; refine (letters_void HV5.out).mono ?_; rintro e w' ⟨rfl, rfl⟩) | (go_at_call 13; refine (settled_void HV5.out).mono ?_; rintro e w' ⟨rfl, rfl⟩) | (go_at_call 21; refine (clone_void HV5.out).mono ?_; rintro e w' ⟨rfl, rfl⟩) | go_in)
        go_roundw
        case rel => exact ⟨1, rfl, by omega, HB5.out⟩
        case measure => simp [intOf]
    · have hV : Void (wr.alloc (.cells #[.slice none 0 0, .slice none 0 0, .int .i64 0] 50)) (.pointer (some ⟨wr.heap.size, 0, none⟩)) := .inr ⟨_, rfl, alloc_same wr _⟩
      have hbx := (alloc_other wr (.cells #[.slice none 0 0, .slice none 0 0, .int .i64 0] 50) hbl).trans hbx
      have hMvr := hMvr.below ((Below.refl _ wr).alloc (Nat.le_refl _) (.cells #[.slice none 0 0, .slice none 0 0, .int .i64 0] 50))
      have hB := hB.alloc hB.size (.cells #[.slice none 0 0, .slice none 0 0, .int .i64 0] 50)
      have hbl := lt_of hbx
      have hP : Calls Try.prog 10 #[v] (wr.alloc (.cells #[.slice none 0 0, .slice none 0 0, .int .i64 0] 50)).drew fun e w5 => ∃ v', e = .returned v' ∧ w5.cell? ⟨w.heap.size, 1, none⟩ = some (.int .i64 site) ∧ w5.cell? ⟨w.heap.size, 2, none⟩ = some (.int .i64 n) ∧ Void w5 (.pointer (some ⟨wr.heap.size, 0, none⟩)) ∧ Below w0.heap.size w0 w5 ∧ w.heap.size < w5.heap.size := by
        refine (parts_any (hMvr.below (Below.refl _ _).drew)).mono ?_
        rintro e w5 ⟨v', rfl, _, hb⟩
        have hbx5 := (hb.block w.heap.size hbl).trans hbx
        have hb2 := (Below.refl ((wr.alloc (.cells #[.slice none 0 0, .slice none 0 0, .int .i64 0] 50))).heap.size ((wr.alloc (.cells #[.slice none 0 0, .slice none 0 0, .int .i64 0] 50)))).drew.trans hb
        exact ⟨v', rfl, cell_of hbx5 rfl, cell_of hbx5 rfl, hV.below hb2, hB.trans (hb2.mono hB.size), lt_of hbx5⟩
      have a1 : (wr.alloc (.cells #[.slice none 0 0, .slice none 0 0, .int .i64 0] 50)).cell? ⟨w.heap.size, 1, none⟩ = some (.int .i64 site) := cell_of hbx rfl
      have a2 : (wr.alloc (.cells #[.slice none 0 0, .slice none 0 0, .int .i64 0] 50)).cell? ⟨w.heap.size, 2, none⟩ = some (.int .i64 n) := cell_of hbx rfl
      have a3 : (wr.alloc (.cells #[.slice none 0 0, .slice none 0 0, .int .i64 0] 50)).cell? ⟨w.heap.size, 3, none⟩ = some v := cell_of hbx rfl
      have HV : Hid (Void (wr.alloc (.cells #[.slice none 0 0, .slice none 0 0, .int .i64 0] 50)) (.pointer (some ⟨wr.heap.size, 0, none⟩))) := hV
      have HP := Lib.hid hP
      clear hV hP hbx hB hMvr
      go_wp2_with (first | (go_at_call 17; refine (stock_void HV.out _).mono ?_; rintro e w' ⟨rfl, rfl⟩) | (go_at_call 19; refine (up_void HV.out _).mono ?_; rintro e w' ⟨rfl, rfl⟩) | (go_at_call 22; refine (cancel_void HV.out _ _).mono ?_; rintro e w' ⟨rfl, rfl⟩) | (go_at_call 26; refine (tick_void HV.out _).mono ?_; rintro e w' ⟨rfl, rfl⟩) | (go_at_call 27; refine (crash_void HV.out _).mono ?_; rintro e w' ⟨rfl, rfl⟩) | (go_at_call 28; refine (start_void HV.out _).mono ?_; rintro e w' ⟨rfl, rfl⟩) | (go_at_call 16; refine (outcome_void HV.out _ _).mono ?_; rintro e w' ⟨rfl, rfl⟩) | (go_at_call 23; refine (deliver_void HV.out _).mono ?_; rintro e w' ⟨rfl, rfl⟩) | (go_at_call 24; refine (repeat_void HV.out _).mono ?_; rintro e w' ⟨rfl, rfl⟩) | (go_at_call 25; refine (lose_void HV.out _).mono ?_; rintro e w' ⟨rfl, rfl⟩) | (go_at_call 18; refine (begin__void HV.out _ _).mono ?_; rintro e w' ⟨rfl, rfl⟩) | (go_at_call 8; refine (sites_void HV.out).mono ?_; rintro e w' ⟨rfl, rfl⟩) | (go_at_call 20; refine (letters_void HV.out).mono ?_; rintro e w' ⟨rfl, rfl⟩) | (go_at_call 13; refine (settled_void HV.out).mono ?_; rintro e w' ⟨rfl, rfl⟩) | (go_at_call 21; refine (clone_void HV.out).mono ?_; rintro e w' ⟨rfl, rfl⟩) | go_in)
      first | go_region_with (first | (go_at_call 10; refine HP.out.mono ?_; rintro e w5 ⟨v5, rfl, b1, b2, hV5, hB5, hl5⟩; have HV5 := Lib.hid hV5; have HB5 := Lib.hid hB5; clear hV5 hB5) | (go_at_call 17; refine (stock_void HV5.out _).mono ?_; rintro e w' ⟨rfl, rfl⟩) | (go_at_call 19; refine (up_void HV5.out _).mono ?_; rintro e w' ⟨rfl, rfl⟩) | (go_at_call 22; refine (cancel_void HV5.out _ _).mono ?_; rintro e w' ⟨rfl, rfl⟩) | (go_at_call 26; refine (tick_void HV5.out _).mono ?_; rintro e w' ⟨rfl, rfl⟩) | (go_at_call 27; refine (crash_void HV5.out _).mono ?_; rintro e w' ⟨rfl, rfl⟩) | (go_at_call 28; refine (start_void HV5.out _).mono ?_; rintro e w' ⟨rfl, rfl⟩) | (go_at_call 16; refine (outcome_void HV5.out _ _).mono ?_; rintro e w' ⟨rfl, rfl⟩) | (go_at_call 23; refine (deliver_void HV5.out _).mono ?_; rintro e w' ⟨rfl, rfl⟩) | (go_at_call 24; refine (repeat_void HV5.out _).mono ?_; rintro e w' ⟨rfl, rfl⟩) | (go_at_call 25; refine (lose_void HV5.out _).mono ?_; rintro e w' ⟨rfl, rfl⟩) | (go_at_call 18; refine (begin__void HV5.out _ _).mono ?_; rintro e w' ⟨rfl, rfl⟩) | (go_at_call 8; refine (sites_void HV5.out).mono ?_; rintro e w' ⟨rfl, rfl⟩) | (go_at_call 20; refine (letters_void HV5.out).mono ?_; rintro e w' ⟨rfl, rfl⟩) | (go_at_call 13; refine (settled_void HV5.out).mono ?_; rintro e w' ⟨rfl, rfl⟩) | (go_at_call 21; refine (clone_void HV5.out).mono ?_; rintro e w' ⟨rfl, rfl⟩)) | fail
      all_goals
        clear a1 a2 a3
        go_wp2_with (first | (go_at_call 17; refine (stock_void HV5.out _).mono ?_; rintro e w' ⟨rfl, rfl⟩) | (go_at_call 19; refine (up_void HV5.out _).mono ?_; rintro e w' ⟨rfl, rfl⟩) | (go_at_call 22; refine (cancel_void HV5.out _ _).mono ?_; rintro e w' ⟨rfl, rfl⟩) | (go_at_call 26; refine (tick_void HV5.out _).mono ?_; rintro e w' ⟨rfl, rfl⟩) | (go_at_call 27; refine (crash_void HV5.out _).mono ?_; rintro e w' ⟨rfl, rfl⟩) | (go_at_call 28; refine (start_void HV5.out _).mono ?_; rintro e w' ⟨rfl, rfl⟩) | (go_at_call 16; refine (outcome_void HV5.out _ _).mono ?_; rintro e w' ⟨rfl, rfl⟩) | (go_at_call 23; refine (deliver_void HV5.out _).mono ?_; rintro e w' ⟨rfl, rfl⟩) | (go_at_call 24; refine (repeat_void HV5.out _).mono ?_; rintro e w' ⟨rfl, rfl⟩) | (go_at_call 25; refine (lose_void HV5.out _).mono ?_; rintro e w' ⟨rfl, rfl⟩) | (go_at_call 18; refine (begin__void HV5.out _ _).mono ?_; rintro e w' ⟨rfl, rfl⟩) | (go_at_call 8; refine (sites_void HV5.out).mono ?_; rintro e w' ⟨rfl, rfl⟩) | (go_at_call 20; refine (letters_void HV5.out).mono ?_; rintro e w' ⟨rfl, rfl⟩) | (go_at_call 13; refine (settled_void HV5.out).mono ?_; rintro e w' ⟨rfl, rfl⟩) | (go_at_call 21; refine (clone_void HV5.out).mono ?_; rintro e w' ⟨rfl, rfl⟩) | go_in)
        go_roundw
        case rel => exact ⟨2, rfl, by omega, HB5.out⟩
        case measure => simp [intOf]
    · have HB := Lib.hid hB
      clear hbx hMvr hB
      go_wp2_with fail
      refine (awake_any _).mono ?_
      rintro e w6 ⟨rfl, hb6⟩
      have HB6 : Hid (Below w.heap.size w w6) := (HB0.out.trans (HB.out.mono (by omega))).trans (hb6.mono (by omega))
      clear hb6
      go_wp2
      go_ret
      exact ⟨rfl, HB6.out⟩
end Go.Proofs.Ytfmfgckfeojfcaa
