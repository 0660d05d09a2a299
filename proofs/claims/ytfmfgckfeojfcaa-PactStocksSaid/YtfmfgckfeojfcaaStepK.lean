/- Walks of package pact: a letter is taken out of the letters. -/
import Derived.Test.YtfmfgckfeojfcaaStepJ
set_option linter.unusedSimpArgs false
set_option linter.unusedVariables false
namespace Go.Proofs.Ytfmfgckfeojfcaa
open Go.RowKit Go.Maps Go.ChangeMaps

theorem addr_add (g off j : Nat) : (⟨g, off, none⟩ : Addr).add j = ⟨g, off + j, none⟩ := by unfold Addr.add; split <;> simp_all

theorem zero_mail (w : World) : (zeroValue 77).run Try.prog w = .ok (.agg #[.int .i64 0, .int .i64 0, .int .i64 0, .int .i64 0, .int .i64 0]) w := by kernel_rfl

/-- 'append(s[:k], s[k+1:]...)' within s's own row. -/
theorem run_cutRow {w : World} {g n cap k : Nat} {xs : List Value} {o : Obj} (hb : w.heap[g]? = some o) (hr : IsRow 77 5 n cap xs o) (h1 : ∀ u ∈ xs, u.oneCell' = true) (hk : k < n) (a : Addr) (ha : a = ⟨g, (k + 1) * 5, none⟩ ∨ n = k + 1) (c : Nat) :
    ∃ w' o', w'.heap[g]? = some o' ∧ IsRow 77 5 (n - 1) cap (xs.take (k * 5) ++ xs.drop ((k + 1) * 5)) o' ∧ Only (fun b => b = g) w w' ∧
      ∀ ty, (Builtin.append_ #[48, 48] ty #[.slice (some ⟨g, 0, none⟩) k cap, .slice (some a) (n - (k + 1)) c]).run Try.prog w = .ok (.slice (some ⟨g, 0, none⟩) (n - 1) cap) w' := by
  obtain ⟨cur, rfl, hnc, hcm, hcs, hxl, ht⟩ := hr.ex
  obtain ⟨i0, hi, hz0, hz1, hz2⟩ := info_parts info_mail
  have hcl : cur.toList.length = cap * 5 := by simpa using hcs
  have hdl : (xs.drop ((k + 1) * 5)).length = (n - (k + 1)) * 5 := by rw [List.length_drop, hxl, Nat.sub_mul]
  have hrun := run_append_room (P := Try.prog) w 48 0 77 i0 Try.underlying48 hi g k cap cur hb a (n - (k + 1)) c (xs.drop ((k + 1) * 5)) (by rw [hz1, hdl])
    (fun j u hu => by
      rcases ha with rfl | hn
      · rw [addr_add]
        refine cell_of hb ?_
        rw [List.getElem?_drop] at hu
        rw [← ht, List.getElem?_take] at hu
        split at hu
        · simpa using hu
        · cases hu
      · have : (xs.drop ((k + 1) * 5)).length = 0 := by rw [hdl, hn]; simp
        rw [List.eq_nil_of_length_eq_zero this] at hu; cases hu)
    (fun u hu => h1 u (List.mem_of_mem_drop hu)) (by omega) (by rw [hz1, hdl, hcs]; have : (n - (k + 1)) * 5 + k * 5 ≤ cap * 5 := by omega
                                                                omega)
  refine ⟨w.setRow g (cur.toList.take (k * i0.size) ++ xs.drop ((k + 1) * 5) ++ cur.toList.drop (k * i0.size + (xs.drop ((k + 1) * 5)).length)).toArray, _, setRow_heap w g cur _ 77 (0, 0) hb, ⟨_, rfl, by omega, hcm, ?_, ?_, ?_⟩, ?_, fun ty => ?_⟩
  · rw [hz1]; simp [hcl, hdl]; omega
  · rw [List.length_append, List.length_take, hdl, hxl]; omega
  · have e1 : cur.toList.take (k * i0.size) = xs.take (k * 5) := by
      rw [hz1, ← ht, List.take_take, Nat.min_eq_left (Nat.mul_le_mul_right _ (Nat.le_of_lt hk))]
    rw [e1]
    simp only [List.toList_toArray]
    rw [List.take_append_of_le_length (by rw [List.length_append, List.length_take, hdl, hxl]; omega)]
    exact List.take_of_length_le (by rw [List.length_append, List.length_take, hdl, hxl]; omega)
  · refine ⟨rfl, rfl, rfl, by simp [World.setRow], fun b hb' hne => ?_⟩
    simp only [World.setRow, Array.getElem?_modify]
    rw [if_neg (fun e => hne e.symm)]
  · have e2 : k + (n - (k + 1)) = n - 1 := by omega
    rw [e2] at hrun
    exact hrun
end Go.Proofs.Ytfmfgckfeojfcaa
