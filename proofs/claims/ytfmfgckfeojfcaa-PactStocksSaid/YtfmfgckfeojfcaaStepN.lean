/- Walks of package pact: slices.Clone at letters and parts, Letters. -/
import Derived.Test.YtfmfgckfeojfcaaStepM
import Derived.Lib.SliceRun
set_option linter.unusedSimpArgs false
set_option linter.unusedVariables false
namespace Go.Proofs.Ytfmfgckfeojfcaa
open Go.RowKit Go.Maps Go.ChangeMaps

theorem info_move : (Try.prog.info? 43).map (fun i => (i.zero, i.size, i.bytes)) = some (some (.agg #[.int .i64 0, .int .i64 0]), 2, 16) := by kernel_rfl

set_option maxHeartbeats 2000000 in
set_option maxRecDepth 100000 in
theorem cloneMail_any {w : World} {b n c : Nat} {xs : List Value} (hc : ∀ j u, xs[j]? = some u → w.cell? ⟨b, j, none⟩ = some u) (hl : xs.length = n * 5) (h1 : ∀ u ∈ xs, u.oneCell' = true) (hn : n ≤ 4096) :
    Calls Try.prog 36 #[.slice (some ⟨b, 0, none⟩) n c] w fun e w' =>
      ∃ v', e = .returned v' ∧ w'.ownsRow w.heap.size 77 5 v' n xs ∧ v' ≠ .slice none 0 0 ∧ Below w.heap.size w w' := by
  obtain ⟨i0, hi, hz0, hz1, hz2⟩ := info_parts info_mail
  have q22 : ∀ (w : World) (a : Option Addr) (n c n' c' : Nat), (binOp .eql 48 (.slice a n c) (.slice none n' c')).run Try.prog w = .ok (.bool a.isNone) w := fun w a n c n' c' => Lib.run_eql_slice_nil w _ _ a n c n' c' Try.underlying48
  have H1 := Lib.hid h1
  have HC := Lib.hid hc
  clear h1 hc
  go_enter Try.func36, Try.ntmps36
  go_wp2_with (at_builtin; refine wpList_append_own _ rfl _ _ 48 rfl w.heap.size 77 i0 (.agg #[.int .i64 0, .int .i64 0, .int .i64 0, .int .i64 0, .int .i64 0]) 5 40 Try.underlying48 hi hz0 hz1 hz2 rfl (by decide) _ _ _ rfl (World.ownsRow_made w #[] 0 (Nat.le_refl _) (Nat.zero_le _) rfl) ⟨b, 0, none⟩ n c xs rfl ?qc1 ?qc2 ?qc3 ?qc4 ?qc5 ?qc6 ?qc7)
  case qc1 => exact hl
  case qc2 =>
    intro j u hj
    rw [Addr.add_lit]
    refine Lib.cell?_alloc_some _ ?_
    rw [Nat.zero_add]
    exact HC.out j u hj
  case qc3 => exact H1.out
  case qc4 => unfold maxLen; omega
  case qc5 => omega
  case qc6 => simp
  intro v' w1 hown hgrow hnil
  go_wp2
  go_ret
  refine ⟨v', rfl, by simpa using hown, ?_, ?_⟩
  · exact hnil
  · exact ((Below.refl _ w).alloc (Nat.le_refl _) _).grown hgrow (by simp) (by intro k hk; simp [Value.ownBlock] at hk; omega)
set_option maxHeartbeats 2000000 in
set_option maxRecDepth 100000 in
theorem cloneMove_any {w : World} {b n c : Nat} {xs : List Value} (hc : ∀ j u, xs[j]? = some u → w.cell? ⟨b, j, none⟩ = some u) (hl : xs.length = n * 2) (h1 : ∀ u ∈ xs, u.oneCell' = true) (hn : n ≤ 4096) :
    Calls Try.prog 33 #[.slice (some ⟨b, 0, none⟩) n c] w fun e w' =>
      ∃ v', e = .returned v' ∧ w'.ownsRow w.heap.size 43 2 v' n xs ∧ v' ≠ .slice none 0 0 ∧ Below w.heap.size w w' := by
  obtain ⟨i0, hi, hz0, hz1, hz2⟩ := info_parts info_move
  have q22 : ∀ (w : World) (a : Option Addr) (n c n' c' : Nat), (binOp .eql 32 (.slice a n c) (.slice none n' c')).run Try.prog w = .ok (.bool a.isNone) w := fun w a n c n' c' => Lib.run_eql_slice_nil w _ _ a n c n' c' Try.underlying32
  have H1 := Lib.hid h1
  have HC := Lib.hid hc
  clear h1 hc
  go_enter Try.func33, Try.ntmps33
  go_wp2_with (at_builtin; refine wpList_append_own _ rfl _ _ 32 rfl w.heap.size 43 i0 (.agg #[.int .i64 0, .int .i64 0]) 2 16 Try.underlying32 hi hz0 hz1 hz2 rfl (by decide) _ _ _ rfl (World.ownsRow_made w #[] 0 (Nat.le_refl _) (Nat.zero_le _) rfl) ⟨b, 0, none⟩ n c xs rfl ?qc1 ?qc2 ?qc3 ?qc4 ?qc5 ?qc6 ?qc7)
  case qc1 => exact hl
  case qc2 =>
    intro j u hj
    rw [Addr.add_lit]
    refine Lib.cell?_alloc_some _ ?_
    rw [Nat.zero_add]
    exact HC.out j u hj
  case qc3 => exact H1.out
  case qc4 => unfold maxLen; omega
  case qc5 => omega
  case qc6 => simp
  intro v' w1 hown hgrow hnil
  go_wp2
  go_ret
  refine ⟨v', rfl, by simpa using hown, ?_, ?_⟩
  · exact hnil
  · exact ((Below.refl _ w).alloc (Nat.le_refl _) _).grown hgrow (by simp) (by intro k hk; simp [Value.ownBlock] at hk; omega)
set_option maxHeartbeats 1000000 in
theorem cloneMail_nil (w : World) :
    Calls Try.prog 36 #[.slice none 0 0] w fun e w' => e = .returned (.slice none 0 0) ∧ w = w' := by
  have q22 : ∀ (w : World) (a : Option Addr) (n c n' c' : Nat), (binOp .eql 48 (.slice a n c) (.slice none n' c')).run Try.prog w = .ok (.bool a.isNone) w := fun w a n c n' c' => Lib.run_eql_slice_nil w _ _ a n c n' c' Try.underlying48
  go_enter Try.func36, Try.ntmps36
  go_wp2
  go_ret
  exact ⟨rfl, rfl⟩

set_option maxHeartbeats 1000000 in
theorem letters_any {w : World} {L : Lay} {N : Net} (h : Rep w L N) (hm : N.mail.length ≤ 1024) :
    Calls Try.prog 20 #[netPtr L] w fun e w' => ∃ v', e = .returned v' ∧ w'.ownsRow w.heap.size 77 5 v' N.mail.length (N.mail.flatMap Mail.cells) ∧ Below w.heap.size w w' := by
  have c1 := h.net1
  unfold netPtr
  by_cases hc : L.mcap = 0
  · have e : mailV L N = .slice none 0 0 := by unfold mailV; rw [if_pos hc]
    have el : N.mail = [] := List.eq_nil_of_length_eq_zero (by have := h.mlen; omega)
    rw [e] at c1
    have hown := World.ownsRow_nil w w.heap.size 77 5
    rw [el]
    have HO := Lib.hid hown
    clear h hm hc e el hown
    go_enter Try.func20, Try.ntmps20
    go_wp2_with fail
    refine (cloneMail_nil _).mono ?_
    rintro e w' ⟨rfl, rfl⟩
    go_wp2
    go_ret
    exact ⟨_, rfl, HO.out, Below.refl _ _⟩
  · have e : mailV L N = .slice (some ⟨L.at_ .mail, 0, none⟩) N.mail.length L.mcap := by unfold mailV; rw [if_neg hc]
    rw [e] at c1
    obtain ⟨o, ho, hr⟩ := h.mailAt (by omega)
    have hcl := cloneMail_any (c := L.mcap) (fun j u hu => hr.cell ho hu) hr.len mails_one (by omega : N.mail.length ≤ 4096)
    have HC := Lib.hid hcl
    clear h hc e ho hr hcl
    go_enter Try.func20, Try.ntmps20
    go_wp2_with fail
    refine HC.out.mono ?_
    rintro e w' ⟨v, rfl, hown, _, hb⟩
    have HO := Lib.hid hown
    have HB := Lib.hid hb
    clear hown hb
    go_wp2
    go_ret
    exact ⟨v, rfl, HO.out, HB.out⟩
end Go.Proofs.Ytfmfgckfeojfcaa
