/- Walks of the laws of package pact: awake. -/
import Derived.Test.YtfmfgckfeojfcaaStepX
set_option linter.unusedSimpArgs false
set_option linter.unusedVariables false
namespace Go.Proofs.Ytfmfgckfeojfcaa
open Go.RowKit Go.Maps Go.ChangeMaps

def awakeParts : List Move := [⟨0, -4⟩, ⟨1, 4⟩]
theorem okNew10 : okNew [10, 0] = true := by decide
theorem pumped_nil : ∀ (n : Nat) {N : Net}, ¬ 0 < N.mail.length → pumped n N = N
  | 0, _, _ => rfl
  | n + 1, N, h => by rw [pumped, if_neg h]

theorem new10_own (w : World) : Calls Try.prog 7 #[.slice (some ⟨w.heap.size, 0, none⟩) 2 2] (w.alloc (.cells #[.int .i64 10, .int .i64 0] 3)) fun e w' =>
    ∃ nb, e = .returned (.tuple #[ptr nb, .int .i64 0]) ∧ Own (w.heap.size + 1) w' nb (Net.new [10, 0]) ∧ Below (w.heap.size + 1) (w.alloc (.cells #[.int .i64 10, .int .i64 0] 3)) w' := by
  have h := own_new (w := w.alloc (.cells #[.int .i64 10, .int .i64 0] 3)) (b := w.heap.size) (cap := 2) (l := [10, 0]) (alloc_same w _) ⟨⟨#[.int .i64 10, .int .i64 0], rfl, Nat.le_refl _, by decide, rfl, rfl, rfl⟩⟩ okNew10
  rw [show (w.alloc (.cells #[.int .i64 10, .int .i64 0] 3)).heap.size = w.heap.size + 1 by simp] at h
  exact h
theorem begin_awake {base nb : Nat} {w : World} (h : Own base w nb (Net.new [10, 0])) :
    Calls Try.prog 18 #[ptr nb, .int .i64 0, .slice (some ⟨w.heap.size, 0, none⟩) 2 2] (w.alloc (.cells #[.int .i64 0, .int .i64 (-4), .int .i64 1, .int .i64 4] 43)) fun e w2 =>
      e = .returned (.tuple #[.int .i64 1, .int .i64 0]) ∧ Own base w2 nb ((Net.new [10, 0]).begin_ 0 awakeParts).1 ∧ Below base (w.alloc (.cells #[.int .i64 0, .int .i64 (-4), .int .i64 1, .int .i64 4] 43)) w2 := by
  have hv : (w.alloc (.cells #[.int .i64 0, .int .i64 (-4), .int .i64 1, .int .i64 4] 43)).ownsRow w.heap.size 43 2 (.slice (some ⟨w.heap.size, 0, none⟩) 2 2) awakeParts.length (awakeParts.flatMap Move.cells) :=
    ⟨rfl, .inr ⟨w.heap.size, 2, _, rfl, Nat.le_refl _, alloc_same w _, Nat.le_refl _, by decide, rfl, rfl⟩⟩
  have hc := own_begin h ((Below.refl _ w).alloc (Nat.le_refl _) _) 0 hv (by decide)
  rw [show ((Net.new [10, 0]).begin_ 0 awakeParts).2.1 = 1 from congrArg Prod.fst awake_begin, show ((Net.new [10, 0]).begin_ 0 awakeParts).2.2 = 0 from congrArg Prod.snd awake_begin] at hc
  exact hc

theorem aw_stock0 {base nb : Nat} {w : World} (h : Own base w nb awakeNet) : Calls Try.prog 17 #[ptr nb, .int .i64 0] w fun e w' => e = .returned (.tuple #[.int .i64 6, .int .i64 0]) ∧ w = w' := by
  have := own_stock h 0
  rw [awake_stock0] at this; exact this
theorem aw_stock1 {base nb : Nat} {w : World} (h : Own base w nb awakeNet) : Calls Try.prog 17 #[ptr nb, .int .i64 1] w fun e w' => e = .returned (.tuple #[.int .i64 4, .int .i64 0]) ∧ w = w' := by
  have := own_stock h 1
  rw [awake_stock1] at this; exact this
theorem aw_settled {base nb : Nat} {w : World} (h : Own base w nb awakeNet) : Calls Try.prog 13 #[ptr nb] w fun e w' => e = .returned (.bool true) ∧ Below w.heap.size w w' := by
  have := own_settled h
  rw [awake_settled] at this; exact this

set_option maxRecDepth 20000 in
set_option maxHeartbeats 2000000 in
theorem awake_any (w : World) : Calls Try.prog 12 #[] w fun e w' => e = .returned (.bool true) ∧ Below w.heap.size w w' := by
  go_enter Try.func12, Try.ntmps12
  go_wp2_with fail
  refine (new10_own w).mono ?_
  rintro e w1 ⟨nb, rfl, hO, hB⟩
  have HO := Lib.hid hO
  have HB : Hid (Below w.heap.size w w1) := ((Below.refl _ w).alloc (Nat.le_refl _) _).trans (hB.mono (by omega))
  clear hO hB
  unfold ptr
  go_wp2_with fail
  refine (begin_awake HO.out).mono ?_
  rintro e w2 ⟨rfl, hO, hB⟩
  obtain ⟨N0, hN0⟩ : ∃ N0, N0 = ((Net.new [10, 0]).begin_ 0 awakeParts).1 := ⟨_, rfl⟩
  rw [← hN0] at hO
  have HO2 := Lib.hid hO
  have HB2 : Hid (Below w.heap.size w w2) := (HB.out.alloc HB.out.size _).trans (hB.mono (by omega))
  have HN0 := Lib.hid hN0
  clear hO hB HO HB hN0
  go_wp2
  go_loopw [5] (fun i wr => ∃ (k : Nat) (N : Net), i = .int .i64 k ∧ k ≤ 20 ∧ Own (w.heap.size + 1) wr nb N ∧ pumped (20 - k) N = awakeNet ∧ Below w.heap.size w wr) (fun i _ => 20 - (intOf i).toNat)
  case atStart => exact ⟨0, N0, rfl, by omega, HO2.out, by rw [HN0.out]; rfl, HB2.out⟩
  case round =>
    obtain ⟨k, N, rfl, hk, hO, hP, hB⟩ := hrel
    have hmail : N.mail.length ≤ 1024 := by obtain ⟨_, L, _, _, h3, _⟩ := hO; exact h3.mail
    have HO := Lib.hid hO
    have HB := Lib.hid hB
    have hend : (k = 20 ∨ N.mail.length = 0) → N = awakeNet := fun h => by
      rcases h with rfl | h
      · exact hP
      · rw [pumped_nil _ (by omega)] at hP; exact hP
    have hgoon : k < 20 → 0 < N.mail.length → pumped (20 - (k + 1)) (N.deliver 0).1 = awakeNet := fun h1 h2 => by
      rw [show 20 - k = (20 - (k + 1)) + 1 by omega, pumped, if_pos h2] at hP
      exact hP
    have HE := Lib.hid hend
    have HGo := Lib.hid hgoon
    clear hO hB hP hend hgoon HO2 HB2 HN0
    by_cases hstop : k < 20 ∧ 0 < N.mail.length
    · obtain ⟨hlt, hpos⟩ := hstop
      go_wp2_with fail
      refine (own_letters HO.out).mono ?_
      rintro e w3 ⟨v, rfl, hrow, hb⟩
      have HO3 : Hid (Own (w.heap.size + 1) w3 nb N) := HO.out.below hb
      have HB3 : Hid (Below w.heap.size w w3) := HB.out.trans (hb.mono HB.out.size)
      have hv : ∃ a c, v = .slice a N.mail.length c := by
        rcases isRow_of_owns hrow with ⟨rfl, e, _⟩ | ⟨g, cap, o, rfl, _⟩
        · exact ⟨_, _, by rw [e]⟩
        · exact ⟨_, _, rfl⟩
      obtain ⟨a, c, rfl⟩ := hv
      clear hrow hb HO HB
      have hpz : (0 : Int) < N.mail.length := by omega
      go_wp2_with fail
      refine (own_deliver HO3.out 0).mono ?_
      rintro e w4 ⟨rfl, hO4, hB4⟩
      have HO4 := Lib.hid hO4
      have HB4 : Hid (Below w.heap.size w w4) := HB3.out.trans (hB4.mono (by omega))
      clear hO4 hB4 HO3 HB3
      go_wp2
      go_roundw
      case rel => exact ⟨k + 1, _, by go_num, by omega, HO4.out, HGo.out hlt hpos, HB4.out⟩
      case measure => simp [intOf]; omega
    · have hN : N = awakeNet := HE.out (by omega)
      by_cases hlt : k < 20
      · have hz : N.mail.length = 0 := by omega
        go_wp2_with fail
        refine (own_letters HO.out).mono ?_
        rintro e w3 ⟨v, rfl, hrow, hb⟩
        have HO3 : Hid (Own (w.heap.size + 1) w3 nb N) := HO.out.below hb
        have HB3 : Hid (Below w.heap.size w w3) := HB.out.trans (hb.mono HB.out.size)
        have hv : ∃ a c, v = .slice a 0 c := by
          rcases isRow_of_owns hrow with ⟨rfl, e, _⟩ | ⟨g, cap, o, rfl, _⟩
          · exact ⟨_, _, rfl⟩
          · exact ⟨_, _, by rw [hz]⟩
        obtain ⟨a, c, rfl⟩ := hv
        clear hrow hb HO HB
        subst hN
        go_wp2_with fail
        refine (aw_stock0 HO3.out).mono ?_
        rintro e w' ⟨rfl, rfl⟩
        go_wp2_with fail
        refine (aw_stock1 HO3.out).mono ?_
        rintro e w' ⟨rfl, rfl⟩
        go_wp2_with fail
        refine (aw_settled HO3.out).mono ?_
        rintro e w5 ⟨rfl, hb5⟩
        have HB5 : Hid (Below w.heap.size w w5) := HB3.out.trans (hb5.mono HB3.out.size)
        clear hb5
        go_wp2
        go_ret
        exact ⟨rfl, HB5.out⟩
      · have hk20 : k = 20 := by omega
        subst hk20
        subst hN
        go_wp2_with fail
        refine (aw_stock0 HO.out).mono ?_
        rintro e w' ⟨rfl, rfl⟩
        go_wp2_with fail
        refine (aw_stock1 HO.out).mono ?_
        rintro e w' ⟨rfl, rfl⟩
        go_wp2_with fail
        refine (aw_settled HO.out).mono ?_
        rintro e w5 ⟨rfl, hb5⟩
        have HB5 : Hid (Below w.heap.size w w5) := HB.out.trans (hb5.mono HB.out.size)
        clear hb5
        go_wp2
        go_ret
        exact ⟨rfl, HB5.out⟩
end Go.Proofs.Ytfmfgckfeojfcaa
