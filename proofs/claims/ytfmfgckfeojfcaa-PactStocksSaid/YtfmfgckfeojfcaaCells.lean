/- Own layer on rows of cells and on what a call leaves as it was. Plain lemmas over any program, no condition. -/
import Derived.Test.YtfmfgckfeojfcaaMaps
import Derived.Below
set_option linter.unusedSimpArgs false
set_option linter.unusedVariables false
namespace Go.Proofs.Ytfmfgckfeojfcaa
open Go.RowKit Go.ChangeMaps

/-! ### lists of records, laid out flat -/
section
variable {α β : Type} {f : α → List β} {k : Nat}

theorem length_flat {l : List α} (h : ∀ x ∈ l, (f x).length = k) : (l.flatMap f).length = l.length * k := by
  induction l with
  | nil => simp
  | cons x r ih =>
    rw [List.flatMap_cons, List.length_append, h x (by simp), ih (fun y hy => h y (by simp [hy])), List.length_cons, Nat.add_mul]
    omega

theorem get_flat {l : List α} (h : ∀ x ∈ l, (f x).length = k) {i j : Nat} (hj : j < k) : (l.flatMap f)[i * k + j]? = (l[i]?).bind fun x => (f x)[j]? := by
  induction l generalizing i with
  | nil => simp
  | cons x r ih =>
    have hx := h x (by simp)
    cases i with
    | zero => rw [List.flatMap_cons, List.getElem?_append_left (by omega)]; simp
    | succ i =>
      rw [List.flatMap_cons, List.getElem?_append_right (by rw [hx, Nat.succ_mul]; omega), hx, show (i + 1) * k + j - k = i * k + j from by rw [Nat.succ_mul]; omega]
      rw [ih (fun y hy => h y (by simp [hy]))]
      simp

theorem set_flat {l : List α} (h : ∀ x ∈ l, (f x).length = k) {i j : Nat} (hj : j < k) {x x' : α} (hx : l[i]? = some x) {v : β} (hf : f x' = (f x).set j v) :
    (l.flatMap f).set (i * k + j) v = (l.set i x').flatMap f := by
  induction l generalizing i with
  | nil => simp at hx
  | cons y r ih =>
    have hy := h y (by simp)
    cases i with
    | zero =>
      simp at hx; subst hx
      rw [List.flatMap_cons, List.set_append_left _ _ (by omega), List.set_cons_zero, List.flatMap_cons, hf]; simp
    | succ i =>
      rw [List.flatMap_cons, List.set_append_right _ _ (by rw [hy, Nat.succ_mul]; omega), hy, show (i + 1) * k + j - k = i * k + j from by rw [Nat.succ_mul]; omega, List.set_cons_succ, List.flatMap_cons]
      rw [ih (fun z hz => h z (by simp [hz])) (by simpa using hx)]

theorem take_flat {l : List α} (h : ∀ x ∈ l, (f x).length = k) (i : Nat) : (l.flatMap f).take (i * k) = (l.take i).flatMap f := by
  induction l generalizing i with
  | nil => simp
  | cons y r ih =>
    have hy := h y (by simp)
    cases i with
    | zero => simp
    | succ i =>
      rw [List.flatMap_cons, List.take_append, List.take_of_length_le (by rw [hy, Nat.succ_mul]; omega), hy, show (i + 1) * k - k = i * k from by rw [Nat.succ_mul]; omega, ih (fun z hz => h z (by simp [hz]))]
      simp
theorem drop_flat {l : List α} (h : ∀ x ∈ l, (f x).length = k) (i : Nat) : (l.flatMap f).drop (i * k) = (l.drop i).flatMap f := by
  induction l generalizing i with
  | nil => simp
  | cons y r ih =>
    have hy := h y (by simp)
    cases i with
    | zero => simp
    | succ i =>
      rw [List.flatMap_cons, List.drop_append, List.drop_of_length_le (by rw [hy, Nat.succ_mul]; omega), hy, show (i + 1) * k - k = i * k from by rw [Nat.succ_mul]; omega, ih (fun z hz => h z (by simp [hz]))]
      simp
end

/-! ### cells of a block -/
section
variable {w : World} {b : Nat} {c : Array Value} {e : TypeId} {v : Value} {off : Nat}

theorem cell_of (h : w.heap[b]? = some (.cells c e (0, 0))) (hv : c[off]? = some v) : w.cell? ⟨b, off, none⟩ = some v := by simp [World.cell?, h, hv]
theorem free_of (h : w.heap[b]? = some (.cells c e (0, 0))) : w.frozen? ⟨b, off, none⟩ = false := by simp [World.frozen?, h]
theorem lt_of {o : Obj} (h : w.heap[b]? = some o) : b < w.heap.size := (Array.getElem?_eq_some_iff.1 h).1
theorem setCell_same (h : w.heap[b]? = some (.cells c e (0, 0))) (v : Value) : (w.setCell ⟨b, off, none⟩ v).heap[b]? = some (.cells (c.setIfInBounds off v) e (0, 0)) := by
  simp [World.setCell, Array.getElem?_modify, h]
theorem setCell_other (w : World) (a : Addr) (v : Value) {i : Nat} (h : i ≠ a.block) : (w.setCell a v).heap[i]? = w.heap[i]? := Below.heap_setCell w a v i h
theorem alloc_same (w : World) (o : Obj) : (w.alloc o).heap[w.heap.size]? = some o := heap_alloc_new w o
theorem alloc_other (w : World) (o : Obj) {i : Nat} (h : i < w.heap.size) : (w.alloc o).heap[i]? = w.heap[i]? := heap_alloc_old w o i h
end

/-- The object is a row with room for cap elements of 'size' cells, of which the first n are xs. -/
structure IsRow (e : TypeId) (size n cap : Nat) (xs : List Value) (o : Obj) : Prop where
  ex : ∃ cur : Array Value, o = .cells cur e (0, 0) ∧ n ≤ cap ∧ cap ≤ maxLen ∧ cur.size = cap * size ∧ xs.length = n * size ∧ cur.toList.take (n * size) = xs

section
variable {w : World} {b : Nat} {e : TypeId} {size n cap : Nat} {xs : List Value} {o : Obj}

theorem IsRow.cell (h : IsRow e size n cap xs o) (hb : w.heap[b]? = some o) {j : Nat} {v : Value} (hv : xs[j]? = some v) : w.cell? ⟨b, j, none⟩ = some v := by
  obtain ⟨cur, rfl, _, _, _, _, ht⟩ := h.ex
  refine cell_of hb ?_
  rw [← ht, List.getElem?_take] at hv
  split at hv
  · simpa using hv
  · cases hv
theorem IsRow.free (h : IsRow e size n cap xs o) (hb : w.heap[b]? = some o) (j : Nat) : w.frozen? ⟨b, j, none⟩ = false := by
  obtain ⟨cur, rfl, _⟩ := h.ex
  exact free_of hb
theorem IsRow.len (h : IsRow e size n cap xs o) : xs.length = n * size := by obtain ⟨cur, _, _, _, _, h, _⟩ := h.ex; exact h
theorem IsRow.le (h : IsRow e size n cap xs o) : n ≤ cap ∧ cap ≤ maxLen := by obtain ⟨cur, _, h1, h2, _⟩ := h.ex; exact ⟨h1, h2⟩
theorem IsRow.set (h : IsRow e size n cap xs o) (hb : w.heap[b]? = some o) (j : Nat) (v : Value) : ∃ o', (w.setCell ⟨b, j, none⟩ v).heap[b]? = some o' ∧ IsRow e size n cap (xs.set j v) o' := by
  obtain ⟨cur, rfl, h1, h2, h3, h4, ht⟩ := h.ex
  refine ⟨_, setCell_same hb v, ⟨cur.setIfInBounds j v, rfl, h1, h2, by simpa using h3, by simpa using h4, ?_⟩⟩
  rw [Array.toList_setIfInBounds, List.take_set, ht]
theorem IsRow.owns (h : IsRow e size n cap xs o) (hb : w.heap[b]? = some o) {base : Nat} (hbase : base ≤ b) : w.ownsRow base e size (.slice (some ⟨b, 0, none⟩) n cap) n xs := by
  obtain ⟨cur, rfl, h1, h2, h3, h4, ht⟩ := h.ex
  exact ⟨h4, .inr ⟨b, cap, cur, rfl, hbase, hb, h1, h2, h3, ht⟩⟩
theorem isRow_of_owns {base : Nat} {v : Value} (h : w.ownsRow base e size v n xs) : (v = .slice none 0 0 ∧ n = 0 ∧ xs = []) ∨ ∃ g cap o, v = .slice (some ⟨g, 0, none⟩) n cap ∧ base ≤ g ∧ w.heap[g]? = some o ∧ IsRow e size n cap xs o := by
  obtain ⟨h0, ⟨rfl, rfl⟩ | ⟨g, cap, cur, rfl, hg, hh, h1, h2, h3, ht⟩⟩ := h
  · exact .inl ⟨rfl, rfl, by simpa using h0⟩
  · exact .inr ⟨g, cap, _, rfl, hg, hh, ⟨cur, rfl, h1, h2, h3, h0, ht⟩⟩
end

/-! ### what a call leaves as it was -/
/-- w' is w but for new blocks and for what blocks in S hold. -/
structure Only (S : Nat → Prop) (w w' : World) : Prop where
  os : w'.os = w.os
  tape : w'.tape = w.tape
  output : w'.output = w.output
  size : w.heap.size ≤ w'.heap.size
  block : ∀ b, b < w.heap.size → ¬ S b → w'.heap[b]? = w.heap[b]?

section
variable {S S' : Nat → Prop} {w w' w'' : World}
theorem Only.refl (S : Nat → Prop) (w : World) : Only S w w := ⟨rfl, rfl, rfl, Nat.le_refl _, fun _ _ _ => rfl⟩
theorem Only.trans (h : Only S w w') (k : Only S' w' w'') (hs : ∀ b, b < w.heap.size → S' b → S b) : Only S w w'' :=
  ⟨k.os.trans h.os, k.tape.trans h.tape, k.output.trans h.output, Nat.le_trans h.size k.size,
    fun b hb hn => (k.block b (Nat.lt_of_lt_of_le hb h.size) (fun e => hn (hs b hb e))).trans (h.block b hb hn)⟩
theorem Only.mono (h : Only S w w') (hs : ∀ b, b < w.heap.size → S b → S' b) : Only S' w w' := ⟨h.os, h.tape, h.output, h.size, fun b hb hn => h.block b hb (fun e => hn (hs b hb e))⟩
theorem Only.alloc (h : Only S w w') (o : Obj) : Only S w (w'.alloc o) :=
  ⟨h.os, h.tape, h.output, by simp; have := h.size; omega, fun b hb hn => (alloc_other w' o (Nat.lt_of_lt_of_le hb h.size)).trans (h.block b hb hn)⟩
theorem Only.drew (h : Only S w w') : Only S w w'.drew := ⟨h.os, h.tape, h.output, h.size, h.block⟩
theorem Only.setCell (h : Only S w w') (a : Addr) (v : Value) (ha : S a.block ∨ w.heap.size ≤ a.block) : Only S w (w'.setCell a v) :=
  ⟨h.os, h.tape, h.output, by simp [World.setCell]; exact h.size, fun b hb hn => (setCell_other w' a v (by rintro rfl; rcases ha with ha | ha <;> first | exact absurd ha hn | omega)).trans (h.block b hb hn)⟩
theorem Only.setBlock (h : Only S w w') (i : Nat) (o : Obj) (hi : S i ∨ w.heap.size ≤ i) : Only S w (ChangeMaps.setBlock w' i o) :=
  ⟨h.os, h.tape, h.output, by simp [ChangeMaps.setBlock]; exact h.size, fun b hb hn => (heap_setBlock_ne w' o (by rintro rfl; rcases hi with hi | hi <;> first | exact absurd hi hn | omega)).trans (h.block b hb hn)⟩
theorem Only.of_grown {row : Option Nat} (h : w.grownBy w' row) (hr : ∀ k, row = some k → S k ∨ w.heap.size ≤ k) : Only S w w' :=
  ⟨h.os, h.tape, h.output, h.size, fun b hb hn => h.block b hb (fun e => by rcases hr b e.symm with hr | hr <;> first | exact absurd hr hn | omega)⟩
theorem Only.of_below (h : Below w.heap.size w w') : Only S w w' := ⟨h.os, h.tape, h.output, h.size, fun b hb _ => h.block b hb⟩
theorem Only.below {B : Nat} (h : Only S w w') (hB : ∀ b, b < B → b < w.heap.size ∧ ¬ S b) : Below B w w' := ⟨h.os, h.tape, h.output, h.size, fun b hb => h.block b (hB b hb).1 (hB b hb).2⟩
theorem Only.same (h : Only S w w') {b : Nat} {o : Obj} (hb : w.heap[b]? = some o) (hs : ¬ S b) : w'.heap[b]? = some o := (h.block b (lt_of hb) hs).trans hb
end

end Go.Proofs.Ytfmfgckfeojfcaa
