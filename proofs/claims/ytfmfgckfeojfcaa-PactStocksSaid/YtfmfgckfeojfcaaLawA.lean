/- Walks of the laws of package pact: parts. -/
import Derived.Test.YtfmfgckfeojfcaaStepY
import Derived.Test.YtfmfgckfeojfcaaStepZ
set_option linter.unusedSimpArgs false
set_option linter.unusedVariables false
namespace Go.Proofs.Ytfmfgckfeojfcaa
open Go.RowKit Go.Maps Go.ChangeMaps

/-- A slice of parts that came in. -/
def MovesIn (w : World) (v : Value) (ps : List Move) : Prop :=
  (v = .slice none 0 0 ∧ ps = []) ∨ ∃ (ad : Addr) (c : Nat), v = .slice (some ad) ps.length c ∧ ps.length ≤ c ∧ c ≤ 9223372036854775807 ∧ ∀ j u, (ps.flatMap Move.cells)[j]? = some u → w.cell? (ad.add j) = some u

set_option maxRecDepth 20000 in
set_option maxHeartbeats 2000000 in
theorem parts_any {w : World} {v : Value} {ps : List Move} (h : MovesIn w v ps) : Calls Try.prog 10 #[v] w fun e w' =>
    ∃ v', e = .returned v' ∧ w'.ownsRow w.heap.size 43 2 v' (ps.take 9).length ((ps.take 9).flatMap Move.cells) ∧ Below w.heap.size w w' := by
  rcases h with ⟨rfl, rfl⟩ | ⟨ad, c, rfl, hc1, hc2, hcells⟩
  · have hown := World.ownsRow_nil w w.heap.size 43 2
    have HO := Lib.hid hown
    clear hown
    go_enter Try.func10, Try.ntmps10
    go_wp2
    go_ret
    exact ⟨_, rfl, HO.out, Below.refl _ _⟩
  · have hm : (min (ps.length : Int) 9).toNat = (ps.take 9).length := by rw [List.length_take]; omega
    have hml : (ps.take 9).length ≤ 9 := by rw [List.length_take]; omega
    have hl : ((ps.take 9).flatMap Move.cells).length = (min (ps.length : Int) 9).toNat * 2 := by rw [hm]; exact length_flat fun x _ => Move.cells2 x
    have hcl : ∀ j u, ((ps.take 9).flatMap Move.cells)[j]? = some u → w.cell? (ad.add j) = some u := fun j u hu => by
      refine hcells j u ?_
      rw [← take_flat (fun x _ => Move.cells2 x), List.getElem?_take] at hu
      split at hu
      · exact hu
      · cases hu
    obtain ⟨i0, hi, hz0, hz1, hz2⟩ := info_parts info_move
    have HC := Lib.hid hcl
    have HL := Lib.hid hl
    have HM := Lib.hid hm
    clear hcl hl hm hcells
    go_enter Try.func10, Try.ntmps10
    go_wp2_with (first
      | (at_builtin; refine wpList_append_own_at _ rfl _ _ 32 rfl w.heap.size 43 i0 _ 2 16 Try.underlying32 hi hz0 hz1 hz2 rfl (by decide) _ _ _ rfl (World.ownsRow_nil w w.heap.size 43 2) ad (min (ps.length : Int) 9).toNat c ((ps.take 9).flatMap Move.cells) rfl HL.out HC.out moves_one ?c3 ?c4 (Nat.le_refl _) ?_)
      | go_in)
    case c3 => unfold maxLen; omega
    case c4 => omega
    intro v' w1 hown1 hg1 _ hloc
    have hown2 : w1.ownsRow w.heap.size 43 2 v' (ps.take 9).length ((ps.take 9).flatMap Move.cells) := by
      rw [← HM.out]
      have h9 := hown1
      first | exact h9 | (simp only [Nat.zero_add] at h9; exact h9)
    have HO1 := Lib.hid hown2
    clear hown2
    have HB : Hid (Below w.heap.size w w1) := (Below.refl _ w).grown hg1 (Nat.le_refl _) (fun k hk => by cases hk)
    clear hown1 hg1 hloc
    go_wp2
    go_ret
    exact ⟨v', rfl, HO1.out, HB.out⟩
end Go.Proofs.Ytfmfgckfeojfcaa
