/- Walks of package pact: slices.Sorted(maps.Keys(m)). -/
import Derived.Test.YtfmfgckfeojfcaaStepC
import Derived.Test.YtfmfgckfeojfcaaLayT
set_option linter.unusedSimpArgs false
set_option linter.unusedVariables false
namespace Go.Proofs.Ytfmfgckfeojfcaa
open Go.RowKit Go.Maps Go.ChangeMaps

theorem sortsI (m : Nat) : AnyZI.SortsIn Try.prog Try.sortedI_ren Fence.wide m :=
  ⟨fun blk off cap ss W hH hblk hsz => callsIn_wide.2 (AnyM.slices_Sort_int Try.sortI blk off cap ss W hH hblk hsz),
   fun p cap W => callsIn_wide.2 (AnyM.slices_Sort_int_none Try.sortI p cap W)⟩

def anyR (_ : Value) : Option (DataW Unit × List MemPlace) := some (.nil, [])
def intV : Value → Int
  | .int _ n => n
  | _ => 0
set_option maxRecDepth 20000 in
theorem MapObj.ownsMap {m : List (Int × Value)} {o : Obj} (hM : MapObj okI (Value.int .i64) m o) {w : World} {b : Nat} (hb : w.heap[b]? = some o) :
    ∃ D0 : DataW Unit, w.ownsMap Try.prog 3 anyR b m.length D0 ∧ (intKeys D0).Perm (AL.keys m) ∧ Maps.size D0 = m.length := by
  obtain ⟨es, clock, rfl, hst, hsz, hp⟩ := hM.ex
  have hrd : ∀ x ∈ es.toList, WideElems.rd Try.prog 3 anyR x = some (.int .i64 (intV x.key), .nil) := fun x hx => by
    obtain ⟨l, hl⟩ := hM.entryOk x hx
    obtain ⟨n, e1, rfl, _⟩ := Maps.keyOf_i64 Try.underlying3 hl
    unfold WideElems.rd
    rw [hl, e1]; rfl
  refine ⟨.map ((es.toList.map (WideElems.rg Try.prog 3 anyR)).foldr DataW.insert []), ⟨es, clock, hb, ⟨hsz, hst, fun x hx => ⟨_, hrd x hx⟩⟩, Nat.le_of_eq hM.size, rfl⟩, ?_, ?_⟩
  · show (List.map (fun p : Lit × DataW Unit => Go.intOf p.1) _).Perm _
    refine ((Go.WideShapes.sorted_perm _).map _).trans ?_
    rw [List.map_map]
    have hf : ∀ x ∈ es.toList, Go.intOf (WideElems.rg Try.prog 3 anyR x).1 = intV x.key := fun x hx => by
      have := WideElems.rg_of (hrd x hx)
      rw [this]; rfl
    have hq : (es.toList.map fun x => intV x.key).Perm (AL.keys m) := by
      have := hp.map fun p => intV p.1
      rw [List.map_map, List.map_map] at this
      exact this
    have e1 : es.toList.map ((fun p : Lit × DataW Unit => Go.intOf p.1) ∘ WideElems.rg Try.prog 3 anyR) = es.toList.map fun x => intV x.key := List.map_congr_left hf
    rw [e1]
    exact hq
  · show (List.foldr DataW.insert [] _).length = _
    rw [length_sorted, List.length_map]
    simpa using hM.size

theorem sort_keys {α : Type} {m : List (Int × α)} (hr : AL.Rising m) {ss : List Int} (hp : ss.Perm (AL.keys m)) : ss.mergeSort (fun x y => decide (x ≤ y)) = AL.keys m := by
  have h1 : (ss.mergeSort (fun x y => decide (x ≤ y))).Perm (AL.keys m) := (List.mergeSort_perm ss _).trans hp
  have h2 : (ss.mergeSort (fun x y => decide (x ≤ y))).Pairwise (fun x y => x ≤ y) := by
    have := List.pairwise_mergeSort (le := fun x y : Int => decide (x ≤ y)) (fun a b c h1 h2 => by simp at *; omega) (fun a b => by simp; omega) ss
    exact this.imp fun h => by simpa using h
  have h3 : (AL.keys m).Pairwise (fun x y => x ≤ y) := by
    unfold AL.keys
    rw [List.pairwise_map]
    exact hr.imp fun h => Int.le_of_lt h
  exact h1.eq_of_pairwise (fun a b _ _ h1 h2 => Int.le_antisymm h1 h2) h2 h3

section
variable {w : World}
theorem keysD_any (mb : Option Nat) (w : World) : Calls Try.prog 44 #[.map mb] w fun e w' =>
    e = .returned (.func (.func 53) #[] #[.pointer (some ⟨w.heap.size, 0, none⟩)]) ∧ w' = w.alloc (.cells #[.map mb] 62) :=
  callsIn_wide.1 (AnyZI.keys_in Try.keysD Fence.wide 5 trivial rfl mb w)
theorem keysP_any (mb : Option Nat) (w : World) : Calls Try.prog 47 #[.map mb] w fun e w' =>
    e = .returned (.func (.func 54) #[] #[.pointer (some ⟨w.heap.size, 0, none⟩)]) ∧ w' = w.alloc (.cells #[.map mb] 60) :=
  callsIn_wide.1 (AnyZI.keys_in Try.keysP Fence.wide 5 trivial rfl mb w)

theorem sortedD_any {m : List (Int × Value)} {o : Obj} (hM : MapObj okI (Value.int .i64) m o) {w : World} {b Bm : Nat} (hb : w.heap[b]? = some o) (hBm : w.cell? ⟨Bm, 0, none⟩ = some (.map (some b))) (hBl : Bm < w.heap.size) (hlen : m.length ≤ 1000) {α : Type} {m' : List (Int × α)} (hk : AL.keys m = AL.keys m') (hr : AL.Rising m') :
    Calls Try.prog 43 #[.func (.func 53) #[] #[.pointer (some ⟨Bm, 0, none⟩)]] w fun e w' =>
      ∃ v, e = .returned v ∧ w'.ownsRow w.heap.size 3 1 v m'.length ((AL.keys m').map (Value.int .i64)) ∧ Below w.heap.size w w' := by
  refine (callsIn_wide (n := 5)).1 ?_
  obtain ⟨D0, hown, hkeys, hsz⟩ := hM.ownsMap hb
  have hl : m'.length = m.length := by have := congrArg List.length hk; simpa [AL.keys] using this.symm
  have hseq := AnyZI.keys_gives (ρ := Try.keysD_ren) { Try.keysD with } Fence.wide 2 trivial rfl (by omega) Bm b _ D0 w hBl hBm hown
  have cS := AnyZI.sorted_in Try.sortedI Fence.wide 5 trivial trivial trivial trivial rfl (by omega) (sortsI _) (enters_of Try.func52 (by kernel_rfl) rfl) 53 #[.pointer (some ⟨Bm, 0, none⟩)] trivial
    (enters_of Try.func53 (by kernel_rfl) rfl) _ _ (by rw [hsz]; unfold maxLen; omega) (by rw [hsz]; omega) _ hseq
  refine cS.mono ?_
  rintro e w' ⟨v, ss, rfl, hS, hrow, _, hbel⟩
  have hp : ss.Perm (AL.keys m') := by rw [← hk]; exact hS.trans hkeys
  have e1 := sort_keys hr hp
  have e2 : ss.length = m'.length := by rw [hp.length_eq]; simp [AL.keys]
  rw [e1, e2] at hrow
  exact ⟨v, rfl, hrow, hbel⟩
theorem sortedP_any {m : List (Int × Value)} {o : Obj} (hM : MapObj okI (Value.int .i64) m o) {w : World} {b Bm : Nat} (hb : w.heap[b]? = some o) (hBm : w.cell? ⟨Bm, 0, none⟩ = some (.map (some b))) (hBl : Bm < w.heap.size) (hlen : m.length ≤ 1000) {α : Type} {m' : List (Int × α)} (hk : AL.keys m = AL.keys m') (hr : AL.Rising m') :
    Calls Try.prog 43 #[.func (.func 54) #[] #[.pointer (some ⟨Bm, 0, none⟩)]] w fun e w' =>
      ∃ v, e = .returned v ∧ w'.ownsRow w.heap.size 3 1 v m'.length ((AL.keys m').map (Value.int .i64)) ∧ Below w.heap.size w w' := by
  refine (callsIn_wide (n := 5)).1 ?_
  obtain ⟨D0, hown, hkeys, hsz⟩ := hM.ownsMap hb
  have hl : m'.length = m.length := by have := congrArg List.length hk; simpa [AL.keys] using this.symm
  have hseq := AnyZI.keys_gives (ρ := Try.keysP_ren) { Try.keysP with } Fence.wide 2 trivial rfl (by omega) Bm b _ D0 w hBl hBm hown
  have cS := AnyZI.sorted_in Try.sortedI Fence.wide 5 trivial trivial trivial trivial rfl (by omega) (sortsI _) (enters_of Try.func52 (by kernel_rfl) rfl) 54 #[.pointer (some ⟨Bm, 0, none⟩)] trivial
    (enters_of Try.func54 (by kernel_rfl) rfl) _ _ (by rw [hsz]; unfold maxLen; omega) (by rw [hsz]; omega) _ hseq
  refine cS.mono ?_
  rintro e w' ⟨v, ss, rfl, hS, hrow, _, hbel⟩
  have hp : ss.Perm (AL.keys m') := by rw [← hk]; exact hS.trans hkeys
  have e1 := sort_keys hr hp
  have e2 : ss.length = m'.length := by rw [hp.length_eq]; simp [AL.keys]
  rw [e1, e2] at hrow
  exact ⟨v, rfl, hrow, hbel⟩
end
end Go.Proofs.Ytfmfgckfeojfcaa
