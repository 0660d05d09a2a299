/- Walks of package pact: the methods at a nil net and at the zero net. -/
import Derived.Test.YtfmfgckfeojfcaaStepN
set_option linter.unusedSimpArgs false
set_option linter.unusedVariables false
namespace Go.Proofs.Ytfmfgckfeojfcaa
open Go.RowKit Go.Maps Go.ChangeMaps

/-- No net: nil, or the zero value. -/
def Void (w : World) (p : Value) : Prop := p = .pointer none ∨ ∃ nb : Nat, p = .pointer (some ⟨nb, 0, none⟩) ∧ w.heap[nb]? = some (.cells #[.slice none 0 0, .slice none 0 0, .int .i64 0] 50 (0, 0))

theorem sites_void {w : World} {p : Value} (h : Void w p) : Calls Try.prog 8 #[p] w fun e w' => e = .returned (.int .i64 0) ∧ w = w' := by
  rcases h with rfl | ⟨nb, rfl, hb⟩
  · go_enter Try.func8, Try.ntmps8
    go_wp2
    all_goals (go_ret; exact ⟨rfl, rfl⟩)
  · have c0 : w.cell? ⟨nb, 0, none⟩ = some (.slice none 0 0) := cell_of hb rfl
    clear hb
    go_enter Try.func8, Try.ntmps8
    go_wp2
    all_goals (go_ret; exact ⟨rfl, rfl⟩)
theorem letters_void {w : World} {p : Value} (h : Void w p) : Calls Try.prog 20 #[p] w fun e w' => e = .returned (.slice none 0 0) ∧ w = w' := by
  rcases h with rfl | ⟨nb, rfl, hb⟩
  · go_enter Try.func20, Try.ntmps20
    go_wp2
    all_goals (go_ret; exact ⟨rfl, rfl⟩)
  · have c0 : w.cell? ⟨nb, 1, none⟩ = some (.slice none 0 0) := cell_of hb rfl
    clear hb
    go_enter Try.func20, Try.ntmps20
    go_wp2_with fail
    refine (cloneMail_nil _).mono ?_
    rintro e w' ⟨rfl, rfl⟩
    go_wp2
    all_goals (go_ret; exact ⟨rfl, rfl⟩)
theorem find_void {w : World} {p : Value} (h : Void w p) (k : Int) : Calls Try.prog 30 #[p, .int .i64 k] w fun e w' => e = .returned (.tuple #[.pointer none, .int .i64 1]) ∧ w = w' := by
  have HS := Lib.hid (sites_void h)
  clear h
  go_enter Try.func30, Try.ntmps30
  go_wp2_with fail
  refine HS.out.mono ?_
  rintro e w' ⟨rfl, rfl⟩
  go_wp2
  go_ret2
  exact ⟨rfl, rfl⟩
theorem letter_void {w : World} {p : Value} (h : Void w p) (k : Int) : Calls Try.prog 40 #[p, .int .i64 k] w fun e w' => e = .returned (.int .i64 1) ∧ w = w' := by
  have HS := Lib.hid (sites_void h)
  clear h
  go_enter Try.func40, Try.ntmps40
  go_wp2_with fail
  refine HS.out.mono ?_
  rintro e w' ⟨rfl, rfl⟩
  go_wp2
  all_goals (go_ret; exact ⟨rfl, rfl⟩)
theorem settled_void {w : World} {p : Value} (h : Void w p) : Calls Try.prog 13 #[p] w fun e w' => e = .returned (.bool false) ∧ w = w' := by
  have HS := Lib.hid (sites_void h)
  clear h
  go_enter Try.func13, Try.ntmps13
  go_wp2_with fail
  refine HS.out.mono ?_
  rintro e w' ⟨rfl, rfl⟩
  go_wp2
  all_goals (go_ret; exact ⟨rfl, rfl⟩)
theorem clone_void {w : World} {p : Value} (h : Void w p) : Calls Try.prog 21 #[p] w fun e w' => e = .returned (.pointer none) ∧ w = w' := by
  have HS := Lib.hid (sites_void h)
  clear h
  go_enter Try.func21, Try.ntmps21
  go_wp2_with fail
  refine HS.out.mono ?_
  rintro e w' ⟨rfl, rfl⟩
  go_wp2
  all_goals (go_ret; exact ⟨rfl, rfl⟩)
theorem awake_void {w : World} {p : Value} (h : Void w p) (k : Int) : Calls Try.prog 31 #[p, .int .i64 k] w fun e w' => e = .returned (.tuple #[.pointer none, .int .i64 1]) ∧ w = w' := by
  have HS := Lib.hid (find_void h k)
  clear h
  go_enter Try.func31, Try.ntmps31
  go_wp2_with fail
  refine HS.out.mono ?_
  rintro e w' ⟨rfl, rfl⟩
  go_wp2
  all_goals (go_ret2; exact ⟨rfl, rfl⟩)
theorem stock_void {w : World} {p : Value} (h : Void w p) (k : Int) : Calls Try.prog 17 #[p, .int .i64 k] w fun e w' => e = .returned (.tuple #[.int .i64 0, .int .i64 1]) ∧ w = w' := by
  have HS := Lib.hid (find_void h k)
  clear h
  go_enter Try.func17, Try.ntmps17
  go_wp2_with fail
  refine HS.out.mono ?_
  rintro e w' ⟨rfl, rfl⟩
  go_wp2
  all_goals (go_ret2; exact ⟨rfl, rfl⟩)
theorem up_void {w : World} {p : Value} (h : Void w p) (k : Int) : Calls Try.prog 19 #[p, .int .i64 k] w fun e w' => e = .returned (.bool false) ∧ w = w' := by
  have HS := Lib.hid (awake_void h k)
  clear h
  go_enter Try.func19, Try.ntmps19
  go_wp2_with fail
  refine HS.out.mono ?_
  rintro e w' ⟨rfl, rfl⟩
  go_wp2
  all_goals (go_ret; exact ⟨rfl, rfl⟩)
theorem begin__void {w : World} {p : Value} (h : Void w p) (k : Int) (v : Value) : Calls Try.prog 18 #[p, .int .i64 k, v] w fun e w' => e = .returned (.tuple #[.int .i64 0, .int .i64 1]) ∧ w = w' := by
  have HS := Lib.hid (awake_void h k)
  clear h
  go_enter Try.func18, Try.ntmps18
  go_wp2_with fail
  refine HS.out.mono ?_
  rintro e w' ⟨rfl, rfl⟩
  go_wp2
  all_goals (go_ret2; exact ⟨rfl, rfl⟩)
theorem cancel_void {w : World} {p : Value} (h : Void w p) (k tx : Int) : Calls Try.prog 22 #[p, .int .i64 k, .int .i64 tx] w fun e w' => e = .returned (.int .i64 1) ∧ w = w' := by
  have HS := Lib.hid (awake_void h k)
  clear h
  go_enter Try.func22, Try.ntmps22
  go_wp2_with fail
  refine HS.out.mono ?_
  rintro e w' ⟨rfl, rfl⟩
  go_wp2
  all_goals (go_ret; exact ⟨rfl, rfl⟩)
theorem tick_void {w : World} {p : Value} (h : Void w p) (k : Int) : Calls Try.prog 26 #[p, .int .i64 k] w fun e w' => e = .returned (.int .i64 1) ∧ w = w' := by
  have HS := Lib.hid (awake_void h k)
  clear h
  go_enter Try.func26, Try.ntmps26
  go_wp2_with fail
  refine HS.out.mono ?_
  rintro e w' ⟨rfl, rfl⟩
  go_wp2
  all_goals (go_ret; exact ⟨rfl, rfl⟩)
theorem crash_void {w : World} {p : Value} (h : Void w p) (k : Int) : Calls Try.prog 27 #[p, .int .i64 k] w fun e w' => e = .returned (.int .i64 1) ∧ w = w' := by
  have HS := Lib.hid (awake_void h k)
  clear h
  go_enter Try.func27, Try.ntmps27
  go_wp2_with fail
  refine HS.out.mono ?_
  rintro e w' ⟨rfl, rfl⟩
  go_wp2
  all_goals (go_ret; exact ⟨rfl, rfl⟩)
theorem start_void {w : World} {p : Value} (h : Void w p) (k : Int) : Calls Try.prog 28 #[p, .int .i64 k] w fun e w' => e = .returned (.int .i64 1) ∧ w = w' := by
  have HS := Lib.hid (find_void h k)
  clear h
  go_enter Try.func28, Try.ntmps28
  go_wp2_with fail
  refine HS.out.mono ?_
  rintro e w' ⟨rfl, rfl⟩
  go_wp2
  all_goals (go_ret; exact ⟨rfl, rfl⟩)
theorem outcome_void {w : World} {p : Value} (h : Void w p) (k tx : Int) : Calls Try.prog 16 #[p, .int .i64 k, .int .i64 tx] w fun e w' => e = .returned (.int .i64 0) ∧ w = w' := by
  have HS := Lib.hid (find_void h k)
  clear h
  go_enter Try.func16, Try.ntmps16
  go_wp2_with fail
  refine HS.out.mono ?_
  rintro e w' ⟨rfl, rfl⟩
  go_wp2
  all_goals (go_ret; exact ⟨rfl, rfl⟩)
theorem deliver_void {w : World} {p : Value} (h : Void w p) (k : Int) : Calls Try.prog 23 #[p, .int .i64 k] w fun e w' => e = .returned (.int .i64 1) ∧ w = w' := by
  have HS := Lib.hid (letter_void h k)
  clear h
  go_enter Try.func23, Try.ntmps23
  go_wp2_with fail
  refine HS.out.mono ?_
  rintro e w' ⟨rfl, rfl⟩
  go_wp2
  all_goals (go_ret; exact ⟨rfl, rfl⟩)
theorem repeat_void {w : World} {p : Value} (h : Void w p) (k : Int) : Calls Try.prog 24 #[p, .int .i64 k] w fun e w' => e = .returned (.int .i64 1) ∧ w = w' := by
  have HS := Lib.hid (letter_void h k)
  clear h
  go_enter Try.func24, Try.ntmps24
  go_wp2_with fail
  refine HS.out.mono ?_
  rintro e w' ⟨rfl, rfl⟩
  go_wp2
  all_goals (go_ret; exact ⟨rfl, rfl⟩)
theorem lose_void {w : World} {p : Value} (h : Void w p) (k : Int) : Calls Try.prog 25 #[p, .int .i64 k] w fun e w' => e = .returned (.int .i64 1) ∧ w = w' := by
  have HS := Lib.hid (letter_void h k)
  clear h
  go_enter Try.func25, Try.ntmps25
  go_wp2_with fail
  refine HS.out.mono ?_
  rintro e w' ⟨rfl, rfl⟩
  go_wp2
  all_goals (go_ret; exact ⟨rfl, rfl⟩)
end Go.Proofs.Ytfmfgckfeojfcaa
