/- The walk of PactSettles. -/
import Derived.Test.YtfmfgckfeojfcaaLawD
import Derived.Test.YtfmfgckfeojfcaaStepY
set_option linter.unusedSimpArgs false
set_option linter.unusedVariables false
namespace Go.Proofs.Ytfmfgckfeojfcaa
open Go.RowKit Go.Maps Go.ChangeMaps

/-- A slice of calls that came in. -/
structure ActsIn (w : World) (oa : Option Addr) (n c : Nat) (acts : List Act) : Prop where
  len : acts.length = n
  cap : n ≤ c
  max : c ≤ 9223372036854775807
  cell : ∀ (j : Nat) (a : Act), acts[j]? = some a → i64 a.n ∧ ∃ ad v, oa = some ad ∧ w.cell? (ad.add (j * 4)) = some (.int .i64 a.kind) ∧ w.cell? (ad.add (j * 4 + 1)) = some (.int .i64 a.site) ∧ w.cell? (ad.add (j * 4 + 2)) = some (.int .i64 a.n) ∧ w.cell? (ad.add (j * 4 + 3)) = some v ∧ MovesIn w v a.parts
/-- The list of all parts. -/
structure AllAt (B : Nat) (F : Nat → Prop) (w : World) (v : Value) (all : List (List Move)) : Prop where
  own : ∀ k, v.ownBlock = some k → F k
  ex : ∃ vs : List Value, vs.length = all.length ∧ w.ownsRow B 32 1 v all.length vs ∧ ∀ (t : Nat) (P : List Move), all[t]? = some P → ∃ u, vs[t]? = some u ∧ w.ownsRow B 43 2 u P.length (P.flatMap Move.cells) ∧ ∀ k, u.ownBlock = some k → F k
theorem row_kept {w w' : World} {B size n : Nat} {e : TypeId} {v : Value} {xs : List Value} (h : w.ownsRow B e size v n xs) (hk : ∀ k, v.ownBlock = some k → w'.heap[k]? = w.heap[k]?) : w'.ownsRow B e size v n xs := by
  rcases isRow_of_owns h with ⟨rfl, rfl, rfl⟩ | ⟨g, cap, o, rfl, hg, ho, hr⟩
  · exact World.ownsRow_nil _ _ _ _
  · exact hr.owns ((hk g rfl).trans ho) hg
theorem row_le {w : World} {B B' size n : Nat} {e : TypeId} {v : Value} {xs : List Value} (h : w.ownsRow B e size v n xs) (hb : B' ≤ B) : w.ownsRow B' e size v n xs := by
  rcases isRow_of_owns h with ⟨rfl, rfl, rfl⟩ | ⟨g, cap, o, rfl, hg, ho, hr⟩
  · exact World.ownsRow_nil _ _ _ _
  · exact hr.owns ho (Nat.le_trans hb hg)
section
variable {B nb : Nat} {F F' : Nat → Prop} {w w' : World} {v : Value} {N : Net} {all : List (List Move)}
theorem AllAt.kept (h : AllAt B F w v all) (hF : ∀ b, F b → b < w.heap.size) (hk : Keep F w w') : AllAt B F w' v all := by
  obtain ⟨h1, vs, h2, h3, h4⟩ := h
  refine ⟨h1, vs, h2, row_kept h3 fun k e => hk.block (hF k (h1 k e)) (h1 k e), fun t P ht => ?_⟩
  obtain ⟨u, e1, e2, e3⟩ := h4 t P ht
  exact ⟨u, e1, row_kept e2 fun k e => hk.block (hF k (e3 k e)) (e3 k e), e3⟩
theorem AllAt.nil : AllAt B F w (.slice none 0 0) [] := ⟨(fun k e => by cases e), [], rfl, World.ownsRow_nil _ _ _ _, (fun t P ht => by simp at ht)⟩
/-- Parts are copied, and the copy is appended. -/
theorem AllAt.push (h : AllAt B F w v all) (hB : B ≤ w.heap.size) (hO : OwnF F w nb N) {w5 : World} {u : Value} {P : List Move} (hb : Below w.heap.size w w5) (hu : w5.ownsRow w.heap.size 43 2 u P.length (P.flatMap Move.cells)) :
    ∃ vs, vs.length = all.length ∧ (w5.alloc (.cells #[u] 32)).ownsRow B 32 1 v all.length vs ∧ (∀ k, v.ownBlock = some k → B ≤ k ∧ k < (w5.alloc (.cells #[u] 32)).heap.size) ∧
      ∀ v' w1, w1.ownsRow B 32 1 v' (all.length + 1) (vs ++ [u]) → (w5.alloc (.cells #[u] 32)).grownBy w1 v.ownBlock → (v'.ownBlock = v.ownBlock ∨ v'.ownBlock = some (w5.alloc (.cells #[u] 32)).heap.size) →
        Only (fun b => v.ownBlock = some b) w w1 ∧ ∃ F' : Nat → Prop, (∀ b, F b → F' b) ∧ OwnF F' w1 nb N ∧ AllAt B F' w1 v' (all ++ [P]) := by
  obtain ⟨h1, vs, h2, h3, h4⟩ := h
  have hsz5 := hb.size
  have hlt : ∀ k, v.ownBlock = some k → k < w.heap.size := fun k e => hO.lt (h1 k e)
  have h35 : w5.ownsRow B 32 1 v all.length vs := row_kept h3 fun k e => hb.block k (hlt k e)
  refine ⟨vs, h2, h35.alloc _, fun k e => ?_, fun v' w1 hown hg hloc => ?_⟩
  · have := hlt k e
    exact ⟨(h35.lt k e).1, by simp; omega⟩
  · have hon : Only (fun b => v.ownBlock = some b) w w1 := by
      have a1 : Only (fun b => v.ownBlock = some b) w (w5.alloc (.cells #[u] 32)) := Only.of_below (hb.alloc hsz5 _)
      exact a1.trans (Only.of_grown (S := fun b => v.ownBlock = some b) hg fun k e => .inl e) fun _ _ h => h
    have hsz1 := hg.size
    simp only [World.alloc, Array.size_push] at hsz1
    refine ⟨hon, fun b => F b ∨ (w.heap.size ≤ b ∧ b < w1.heap.size), fun b hb => .inl hb, hO.more hon (fun b e => h1 b e) (fun b hF => ?_), fun k e => ?_, vs ++ [u], by simp [h2], by simpa using hown, fun t Q ht => ?_⟩
    · rcases hF with hF | hF
      · exact ⟨by have := hO.lt hF; omega, .inl hF⟩
      · exact ⟨hF.2, .inr hF.1⟩
    · rcases hloc with e2 | e2
      · rw [e2] at e; exact .inl (h1 k e)
      · rw [e] at e2
        have e3 : k = w5.heap.size + 1 := by simpa using e2
        have := (hown.lt k e).2
        exact .inr ⟨by omega, this⟩
    · by_cases htl : t < all.length
      · rw [List.getElem?_append_left htl] at ht
        obtain ⟨x, e1, e2, e3⟩ := h4 t Q ht
        refine ⟨x, by rw [List.getElem?_append_left (by omega)]; exact e1, row_kept e2 fun k e => ?_, fun k e => .inl (e3 k e)⟩
        refine hon.block k (hO.lt (e3 k e)) fun hv => ?_
        -- a row of parts is no row of slices
        rcases isRow_of_owns e2 with ⟨rfl, _, _⟩ | ⟨g, cap, o, rfl, _, ho, hr⟩
        · cases e
        · rcases isRow_of_owns h3 with ⟨rfl, _, _⟩ | ⟨g2, cap2, o2, rfl, _, ho2, hr2⟩
          · cases hv
          · have eg : g = k := by simpa [Value.ownBlock] using e
            have eg2 : g2 = k := by simpa [Value.ownBlock] using hv
            subst eg; subst eg2
            rw [ho] at ho2
            cases ho2
            obtain ⟨c1, e4, _⟩ := hr.ex
            obtain ⟨c2, e5, _⟩ := hr2.ex
            rw [e4] at e5
            cases e5
      · have htl2 : t = all.length := by
          have := (List.getElem?_eq_some_iff.1 ht).1
          simp at this; omega
        subst htl2
        rw [List.getElem?_append_right (by omega)] at ht
        simp at ht
        subst ht
        refine ⟨u, by rw [List.getElem?_append_right (by omega)]; simp [h2], ?_, fun k e => ?_⟩
        · have a1 : (w5.alloc (.cells #[u] 32)).ownsRow w.heap.size 43 2 u P.length (P.flatMap Move.cells) := hu.alloc _
          have a2 : u.ownBlock = none ∨ u.ownBlock ≠ v.ownBlock := by
            cases e : u.ownBlock with
            | none => exact .inl rfl
            | some k =>
              right
              intro e2
              have := (hu.lt k e).1
              have := hlt k e2.symm
              omega
          exact row_le (a1.kept hg a2) hB
        · have := hu.lt k e
          exact .inr ⟨this.1, by omega⟩
end
end Go.Proofs.Ytfmfgckfeojfcaa
