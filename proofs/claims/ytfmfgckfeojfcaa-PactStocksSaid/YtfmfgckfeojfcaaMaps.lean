/- Own layer on maps: what a map's block holds, as a list of keys and values; what the operations do to it. No condition: plain lemmas over any program. -/
import Derived.Maps.RangeWalk
import Derived.Maps.OwnSet
import Derived.WalkKit
set_option linter.unusedSimpArgs false
set_option linter.unusedVariables false
namespace Go.Proofs.Ytfmfgckfeojfcaa
open Go.Maps Go.MapKept Go.ChangeMaps

/-! ### lists of keys and values -/
namespace AL
variable {κ α : Type}

def get? [DecidableEq κ] (k : κ) (m : List (κ × α)) : Option α := (m.find? (fun p => decide (p.1 = k))).map (·.2)
def has [DecidableEq κ] (k : κ) (m : List (κ × α)) : Bool := m.any (fun p => decide (p.1 = k))
def del [DecidableEq κ] (k : κ) (m : List (κ × α)) : List (κ × α) := m.filter (fun p => !decide (p.1 = k))
def ins [LT κ] [DecidableLT κ] (k : κ) (v : α) : List (κ × α) → List (κ × α)
  | [] => [(k, v)]
  | y :: r => if k < y.1 then (k, v) :: y :: r else y :: ins k v r
def put [DecidableEq κ] [LT κ] [DecidableLT κ] (k : κ) (v : α) (m : List (κ × α)) : List (κ × α) := ins k v (del k m)
def keys (m : List (κ × α)) : List κ := m.map (·.1)

theorem ins_perm [LT κ] [DecidableLT κ] (k : κ) (v : α) : ∀ m : List (κ × α), (ins k v m).Perm ((k, v) :: m)
  | [] => List.Perm.refl _
  | y :: r => by
    unfold ins
    split
    · exact List.Perm.refl _
    · exact ((ins_perm k v r).cons y).trans (List.Perm.swap _ _ _)

theorem put_perm [DecidableEq κ] [LT κ] [DecidableLT κ] (k : κ) (v : α) (m : List (κ × α)) : (put k v m).Perm ((k, v) :: del k m) := ins_perm k v _

theorem get?_of_mem [DecidableEq κ] {k : κ} {v : α} {m : List (κ × α)} (hn : (keys m).Nodup) (h : (k, v) ∈ m) : get? k m = some v := by
  induction m with
  | nil => cases h
  | cons y r ih =>
    obtain ⟨y1, y2⟩ := y
    simp only [keys, List.map_cons, List.nodup_cons] at hn
    simp only [get?, List.find?_cons]
    by_cases e : y1 = k
    · subst e
      rcases List.mem_cons.1 h with h | h
      · cases h; simp
      · exact absurd (List.mem_map.2 ⟨_, h, rfl⟩) hn.1
    · rcases List.mem_cons.1 h with h | h
      · cases h; exact absurd rfl e
      · simp only [e, decide_false]; exact ih hn.2 h

theorem mem_of_get? [DecidableEq κ] {k : κ} {v : α} {m : List (κ × α)} (h : get? k m = some v) : (k, v) ∈ m := by
  simp only [get?, Option.map_eq_some_iff] at h
  obtain ⟨p, hp, rfl⟩ := h
  have h1 := List.find?_some hp
  have h2 := List.mem_of_find?_eq_some hp
  simp at h1
  subst h1
  exact h2

theorem get?_none [DecidableEq κ] {k : κ} {m : List (κ × α)} : get? k m = none ↔ ∀ p ∈ m, p.1 ≠ k := by simp [get?]
theorem has_iff [DecidableEq κ] {k : κ} {m : List (κ × α)} : has k m = true ↔ ∃ p ∈ m, p.1 = k := by simp [has]
theorem has_eq_isSome [DecidableEq κ] (k : κ) (m : List (κ × α)) : has k m = (get? k m).isSome := by
  cases h : get? k m with
  | none => rw [get?_none] at h; simp [has]; exact fun a b hp e => h _ hp e
  | some v => have := mem_of_get? h; simp [has]; exact ⟨v, this⟩

theorem perm_get? [DecidableEq κ] {k : κ} {m m' : List (κ × α)} (hp : m.Perm m') (hn : (keys m).Nodup) : get? k m = get? k m' := by
  have hn' : (keys m').Nodup := (hp.map _).nodup_iff.1 hn
  cases h : get? k m with
  | some v => exact (get?_of_mem hn' (hp.mem_iff.1 (mem_of_get? h))).symm
  | none =>
    rw [get?_none] at h
    exact (get?_none.2 fun p hp' => h p (hp.mem_iff.2 hp')).symm

theorem mem_del [DecidableEq κ] {k : κ} {m : List (κ × α)} {p : κ × α} : p ∈ del k m ↔ p ∈ m ∧ p.1 ≠ k := by simp [del]
theorem mem_put [DecidableEq κ] [LT κ] [DecidableLT κ] {k : κ} {v : α} {m : List (κ × α)} {p : κ × α} : p ∈ put k v m ↔ p = (k, v) ∨ (p ∈ m ∧ p.1 ≠ k) := by
  rw [(put_perm k v m).mem_iff, List.mem_cons, mem_del]

theorem keys_del [DecidableEq κ] (k : κ) (m : List (κ × α)) : keys (del k m) = (keys m).filter (fun x => !decide (x = k)) := by
  simp [keys, del, List.filter_map, Function.comp_def]
theorem nodup_del [DecidableEq κ] {k : κ} {m : List (κ × α)} (hn : (keys m).Nodup) : (keys (del k m)).Nodup := by rw [keys_del]; exact hn.filter _
theorem nodup_put [DecidableEq κ] [LT κ] [DecidableLT κ] {k : κ} {v : α} {m : List (κ × α)} (hn : (keys m).Nodup) : (keys (put k v m)).Nodup := by
  refine ((put_perm k v m).map _).nodup_iff.2 ?_
  simp only [List.map_cons, List.nodup_cons]
  exact ⟨fun h => by obtain ⟨p, hp, e⟩ := List.mem_map.1 h; exact (mem_del.1 hp).2 e, nodup_del hn⟩

theorem get?_del_same [DecidableEq κ] (k : κ) (m : List (κ × α)) : get? k (del k m) = none := get?_none.2 fun _ h => (mem_del.1 h).2
theorem get?_del_other [DecidableEq κ] {k k' : κ} (h : k' ≠ k) (m : List (κ × α)) : get? k' (del k m) = get? k' m := by
  unfold get? del
  congr 1
  induction m with
  | nil => rfl
  | cons y r ih =>
    by_cases e : y.1 = k
    · have e3 : y.1 ≠ k' := fun e' => h (e'.symm.trans e)
      rw [List.filter_cons_of_neg (by simp [e]), List.find?_cons_of_neg (by simpa using e3)]
      exact ih
    · rw [List.filter_cons_of_pos (by simp [e])]
      by_cases e' : y.1 = k'
      · rw [List.find?_cons_of_pos (by simpa using e'), List.find?_cons_of_pos (by simpa using e')]
      · rw [List.find?_cons_of_neg (by simpa using e'), List.find?_cons_of_neg (by simpa using e')]
        exact ih
theorem get?_put_same [DecidableEq κ] [LT κ] [DecidableLT κ] (k : κ) (v : α) {m : List (κ × α)} (hn : (keys m).Nodup) : get? k (put k v m) = some v :=
  get?_of_mem (nodup_put hn) (mem_put.2 (Or.inl rfl))
theorem get?_put_other [DecidableEq κ] [LT κ] [DecidableLT κ] {k k' : κ} (h : k' ≠ k) (v : α) {m : List (κ × α)} (hn : (keys m).Nodup) : get? k' (put k v m) = get? k' m := by
  rw [perm_get? (put_perm k v m) (nodup_put hn), ← get?_del_other h m]
  have : ¬ k = k' := fun e => h e.symm
  simp [get?, this]

theorem length_del [DecidableEq κ] (k : κ) {m : List (κ × α)} (hn : (keys m).Nodup) : (del k m).length + (if has k m then 1 else 0) = m.length := by
  induction m with
  | nil => simp [del, has]
  | cons y r ih =>
    simp only [keys, List.map_cons, List.nodup_cons] at hn
    have ih := ih hn.2
    by_cases e : y.1 = k
    · have hr : has k r = false := by
        cases hh : has k r
        · rfl
        · obtain ⟨p, hp, e'⟩ := has_iff.1 hh
          exact absurd (List.mem_map.2 ⟨p, hp, e'.trans e.symm⟩) hn.1
      rw [hr] at ih
      have h1 : del k (y :: r) = del k r := by simp [del, e]
      have h2 : has k (y :: r) = true := by simp [has, e]
      rw [h1, h2]; simp at ih ⊢; omega
    · have h1 : del k (y :: r) = y :: del k r := by simp [del, e]
      have h2 : has k (y :: r) = has k r := by simp [has, e]
      rw [h1, h2]; simp only [List.length_cons]; omega
theorem length_put [DecidableEq κ] [LT κ] [DecidableLT κ] (k : κ) (v : α) {m : List (κ × α)} (hn : (keys m).Nodup) : (put k v m).length = if has k m then m.length else m.length + 1 := by
  rw [(put_perm k v m).length_eq, List.length_cons]
  have := length_del k hn
  split <;> simp_all
theorem length_put_le [DecidableEq κ] [LT κ] [DecidableLT κ] (k : κ) (v : α) {m : List (κ × α)} (hn : (keys m).Nodup) : (put k v m).length ≤ m.length + 1 := by
  rw [length_put k v hn]; split <;> omega

theorem get?_map [DecidableEq κ] {β : Type} (f : κ → α → β) (k : κ) (m : List (κ × α)) : get? k (m.map fun p => (p.1, f p.1 p.2)) = (get? k m).map (f k) := by
  induction m with
  | nil => rfl
  | cons y r ih =>
    by_cases e : y.1 = k
    · subst e; simp [get?]
    · simp [get?, e] at ih ⊢; exact ih
theorem has_map [DecidableEq κ] {β : Type} (f : κ → α → β) (k : κ) (m : List (κ × α)) : has k (m.map fun p => (p.1, f p.1 p.2)) = has k m := by
  simp [has, Function.comp_def]
theorem del_map [DecidableEq κ] {β : Type} (f : κ → α → β) (k : κ) (m : List (κ × α)) : del k (m.map fun p => (p.1, f p.1 p.2)) = (del k m).map fun p => (p.1, f p.1 p.2) := by
  simp [del, List.filter_map, Function.comp_def]
theorem ins_map [LT κ] [DecidableLT κ] {β : Type} (f : κ → α → β) (k : κ) (v : α) : ∀ m : List (κ × α), ins k (f k v) (m.map fun p => (p.1, f p.1 p.2)) = (ins k v m).map fun p => (p.1, f p.1 p.2)
  | [] => rfl
  | y :: r => by
    simp only [List.map_cons, ins]
    split
    · rfl
    · simp only [List.map_cons, ins_map f k v r]
theorem put_map [DecidableEq κ] [LT κ] [DecidableLT κ] {β : Type} (f : κ → α → β) (k : κ) (v : α) (m : List (κ × α)) : put k (f k v) (m.map fun p => (p.1, f p.1 p.2)) = (put k v m).map fun p => (p.1, f p.1 p.2) := by
  unfold put; rw [del_map, ins_map]
theorem map_congr {β : Type} {f g : κ → α → β} {m : List (κ × α)} (h : ∀ k v, (k, v) ∈ m → f k v = g k v) : (m.map fun p => (p.1, f p.1 p.2)) = m.map fun p => (p.1, g p.1 p.2) :=
  List.map_congr_left fun p hp => by rw [h p.1 p.2 hp]

theorem perm_of_get? [DecidableEq κ] {k : κ} {v : α} {m : List (κ × α)} (h : get? k m = some v) (hn : (keys m).Nodup) : m.Perm ((k, v) :: del k m) := by
  induction m with
  | nil => cases h
  | cons y r ih =>
    simp only [keys, List.map_cons, List.nodup_cons] at hn
    by_cases e : y.1 = k
    · have hd : del k (y :: r) = r := by
        unfold del
        rw [List.filter_cons_of_neg (by simp [e])]
        exact List.filter_eq_self.2 fun p hp => by simpa using fun e' => hn.1 (List.mem_map.2 ⟨p, hp, e'.trans e.symm⟩)
      have hy : y = (k, v) := by
        have := mem_of_get? h
        rcases List.mem_cons.1 this with h1 | h1
        · exact h1.symm
        · exact absurd (List.mem_map.2 ⟨_, h1, e.symm⟩) hn.1
      rw [hd, hy]
    · have hd : del k (y :: r) = y :: del k r := by unfold del; rw [List.filter_cons_of_pos (by simp [e])]
      have hg : get? k r = some v := by simpa [get?, e] using h
      rw [hd]
      exact ((ih hg hn.2).cons y).trans (List.Perm.swap _ _ _)

/-- Rising keys: what makes a list of keys and values the one form of a map. -/
def Rising [LT κ] (m : List (κ × α)) : Prop := m.Pairwise fun p q => p.1 < q.1
end AL

/-! ### the key's type -/
/-- What the operations need of the values that are keys. -/
structure KeyT (P : Program) (kT : TypeId) (ok : Value → Prop) : Prop where
  check : ∀ (w : World) (em : Bool) (v : Value), ok v → (Instr.checkKey em 10000 kT v).run P w = .ok () w
  find : ∀ (w : World) (x : Value), ok x → ∀ es : List MapEntry, (∀ e ∈ es, ok e.key) →
    ((Instr.findKey kT x es).run P w = .ok none w ∧ ∀ e ∈ es, e.key ≠ x) ∨ ∃ j e, (Instr.findKey kT x es).run P w = .ok (some (j, e.val)) w ∧ es[j]? = some e ∧ e.key = x
  stays : ∀ (w : World) (v : Value), ok v → (Instr.keyThatStays v v).run P w = .ok v w

theorem KeyT.of_keyed {P : Program} {kT : TypeId} (K : Keyed P kT) : KeyT P kT (fun v => ∃ l, keyOf P kT v = some l) :=
  ⟨fun w em _ ⟨_, h⟩ => K.check w em h, fun w _ ⟨_, h⟩ es hes => K.find w h es hes, fun w _ ⟨_, h⟩ => K.stays w h⟩

/-! ### the object -/
section
variable {κ : Type} {P : Program} {kT t e : TypeId} {ok : Value → Prop} {enc : κ → Value}

/-- The object o is a map that holds just the entries of m. -/
structure MapObj (ok : Value → Prop) (enc : κ → Value) (m : List (κ × Value)) (o : Obj) : Prop where
  ex : ∃ es clock, o = .map es clock ∧ Stamped es clock ∧ es.size ≤ maxLen ∧ (es.toList.map fun x => (x.key, x.val)).Perm (m.map fun p => (enc p.1, p.2))
  oks : ∀ p ∈ m, ok (enc p.1)

theorem MapObj.perm {m m' : List (κ × Value)} {o : Obj} (h : MapObj ok enc m o) (hp : m.Perm m') : MapObj ok enc m' o := by
  obtain ⟨⟨es, c, e1, e2, e3, e4⟩, h2⟩ := h
  exact ⟨⟨es, c, e1, e2, e3, e4.trans (hp.map _)⟩, fun p hp' => h2 p (hp.mem_iff.2 hp')⟩

theorem MapObj.size {m : List (κ × Value)} {es : Array MapEntry} {clock : Nat} (h : MapObj ok enc m (.map es clock)) : es.size = m.length := by
  obtain ⟨⟨es', c, e1, _, _, e4⟩, _⟩ := h
  cases e1
  simpa using e4.length_eq

theorem MapObj.nodup {m : List (κ × Value)} {o : Obj} (h : MapObj ok enc m o) : (AL.keys m).Nodup := by
  obtain ⟨⟨es, c, e1, ⟨_, _, hk⟩, _, e4⟩, _⟩ := h
  have h1 := (e4.map (·.1)).nodup_iff.1 (by simpa [Function.comp_def] using hk)
  rw [List.map_map] at h1
  have h2 : ((fun x : Value × Value => x.1) ∘ fun p : κ × Value => (enc p.1, p.2)) = enc ∘ (·.1) := rfl
  rw [h2, ← List.map_map] at h1
  exact (List.pairwise_map.1 h1).imp fun hne e => hne (by rw [e])

theorem mapObj_empty : MapObj (κ := κ) ok enc [] (.map #[] 0) := ⟨⟨#[], 0, rfl, stamped_empty 0, by simp, by simp⟩, by simp⟩

/-- What an entry is: one of m's. -/
theorem MapObj.entry {m : List (κ × Value)} {es : Array MapEntry} {clock : Nat} (h : MapObj ok enc m (.map es clock)) {x : MapEntry} (hx : x ∈ es.toList) : ∃ p ∈ m, x.key = enc p.1 ∧ x.val = p.2 := by
  obtain ⟨⟨es', c, e1, _, _, e4⟩, _⟩ := h
  cases e1
  have := e4.mem_iff.1 (List.mem_map.2 ⟨x, hx, rfl⟩)
  obtain ⟨p, hp, e⟩ := List.mem_map.1 this
  simp only [Prod.mk.injEq] at e
  exact ⟨p, hp, e.1.symm, e.2.symm⟩
theorem MapObj.entryOk {m : List (κ × Value)} {es : Array MapEntry} {clock : Nat} (h : MapObj ok enc m (.map es clock)) : ∀ x ∈ es.toList, ok x.key := fun x hx => by
  obtain ⟨p, hp, e, _⟩ := h.entry hx
  rw [e]; exact h.oks p hp
theorem MapObj.entryOf {m : List (κ × Value)} {es : Array MapEntry} {clock : Nat} (h : MapObj ok enc m (.map es clock)) {p : κ × Value} (hp : p ∈ m) : ∃ x ∈ es.toList, x.key = enc p.1 ∧ x.val = p.2 := by
  obtain ⟨⟨es', c, e1, _, _, e4⟩, _⟩ := h
  cases e1
  have := e4.mem_iff.2 (List.mem_map.2 ⟨p, hp, rfl⟩)
  obtain ⟨x, hx, e⟩ := List.mem_map.1 this
  simp only [Prod.mk.injEq] at e
  exact ⟨x, hx, e.1, e.2⟩

variable {w : World} {b : Nat} {o : Obj} {m : List (κ × Value)} {k : κ}

/-- 'm[k]' and 'v, ok := m[k]'. -/
theorem MapObj.look [DecidableEq κ] (h : MapObj ok enc m o) (K : KeyT P kT ok) (henc : ∀ a b, enc a = enc b → a = b) (ht : P.underlying t = some (.map kT e)) {z : Value} (hz : ∀ w, (zeroValue e).run P w = .ok z w)
    (hk : ok (enc k)) (c : Bool) (W : World) (hb : W.heap[b]? = some o) :
    (Instr.lookup t (.map (some b)) (enc k) c).run P W = .ok (if c then .tuple #[(AL.get? k m).getD z, .bool (AL.has k m)] else (AL.get? k m).getD z) W := by
  obtain ⟨es, clock, rfl, hst, hsz, hp⟩ := h.ex
  rw [AL.has_eq_isSome]
  rcases K.find W (enc k) hk es.toList h.entryOk with ⟨h1, h2⟩ | ⟨j, x, h1, h2, h3⟩
  · have hg : AL.get? k m = none := AL.get?_none.2 fun p hp' e => by
      obtain ⟨x, hx, e1, _⟩ := h.entryOf hp'
      exact h2 x hx (by rw [e1, e])
    cases c <;> simp [Instr.lookup, run_underlying ht, MapKept.run_getObj_map hb, K.check W _ _ hk, h1, hz, Result.andThen, hg]
  · obtain ⟨p, hp', e1, e2⟩ := h.entry (List.mem_of_getElem? h2)
    have ek : p.1 = k := henc _ _ (by rw [← e1, h3])
    have hg : AL.get? k m = some x.val := AL.get?_of_mem h.nodup (by rw [e2, ← ek]; exact hp')
    cases c <;> simp [Instr.lookup, run_underlying ht, MapKept.run_getObj_map hb, K.check W _ _ hk, h1, Result.andThen, hg]

theorem heap_setBlock_eq (hb : w.heap[b]? = some o) (o' : Obj) : (setBlock w b o').heap[b]? = some o' := by
  have := (Array.getElem?_eq_some_iff.1 hb).1
  simp [setBlock, this]
theorem heap_setBlock_ne (w : World) (o' : Obj) {b i : Nat} (h : i ≠ b) : (setBlock w b o').heap[i]? = w.heap[i]? := by
  simp [setBlock, Array.getElem?_setIfInBounds_ne (Ne.symm h)]

/-- 'm[k] = v'. -/
theorem MapObj.update [DecidableEq κ] (h : MapObj ok enc m o) (K : KeyT P kT ok) (henc : ∀ a b, enc a = enc b → a = b) (ht : P.underlying t = some (.map kT e))
    (hk : ok (enc k)) (v : Value) (hn : m.length < maxLen) {m' : List (κ × Value)} (hm' : m'.Perm ((k, v) :: AL.del k m)) :
    ∃ o', MapObj ok enc m' o' ∧ ∀ W : World, W.heap[b]? = some o → (Instr.mapUpdate t (.map (some b)) (enc k) v).run P W = .ok () (setBlock W b o') := by
  classical
  obtain ⟨es, clock, rfl, hst, hsz, hp⟩ := h.ex
  have hes := h.size
  have hoks : ∀ p ∈ m', ok (enc p.1) := fun p hp' => by
    rcases List.mem_cons.1 (hm'.mem_iff.1 hp') with rfl | hp'
    · exact hk
    · exact h.oks p (AL.mem_del.1 hp').1
  rcases K.find default (enc k) hk es.toList h.entryOk with ⟨h1, h2⟩ | ⟨j, x, h1, h2, h3⟩
  · have hd : AL.del k m = m := by
      refine List.filter_eq_self.2 fun p hp' => ?_
      obtain ⟨x, hx, e1, _⟩ := h.entryOf hp'
      simp only [Bool.not_eq_true', decide_eq_false_iff_not]
      exact fun e => h2 x hx (by rw [e1, e])
    refine ⟨.map (es.push ⟨enc k, v, clock⟩) (clock + 1), ⟨⟨_, _, rfl, stamped_push hst h2, by simp; omega, ?_⟩, hoks⟩, fun W hb => ?_⟩
    · rw [Array.toList_push, List.map_append]
      refine (List.perm_append_singleton _ _).trans ?_
      refine List.Perm.trans ?_ (hm'.map _).symm
      rw [hd]
      exact hp.cons _
    · rcases K.find W (enc k) hk es.toList h.entryOk with ⟨g1, _⟩ | ⟨j, x, _, g2, g3⟩
      · simp [Instr.mapUpdate, run_underlying ht, MapKept.run_getObj_map hb, K.check W false _ hk, g1, MapKept.run_setObj_map _ hb, Result.andThen, setBlock]
      · exact absurd g3 (h2 x (List.mem_of_getElem? g2))
  · have hj : es[j]? = some x := by simpa using h2
    have hjl : j < es.size := (Array.getElem?_eq_some_iff.1 hj).1
    refine ⟨.map (es.modify j (fun e' => { e' with key := enc k, val := v })) clock, ⟨⟨_, _, rfl, stamped_modify hst _ _ (fun _ _ => rfl) (fun e' _ he' => by rw [hj] at he'; cases he'; exact h3.symm), by simpa using hsz, ?_⟩, hoks⟩, fun W hb => ?_⟩
    · have hlist : (es.modify j (fun e' => { e' with key := enc k, val := v })).toList = es.toList.set j { x with key := enc k, val := v } := by rw [Array.toList_modify, modify_eq_set _ _ _ _ h2]
      rw [hlist, List.map_set]
      refine (set_perm _ _ (by simpa using hjl) _).trans ?_
      refine List.Perm.trans ?_ (hm'.map _).symm
      refine List.Perm.cons _ ?_
      have hf : AL.del k m = m.filter (fun p => !decide (p.1 = k)) := rfl
      have hperm := hp.filter (fun q : Value × Value => !decide (q.1 = enc k))
      have e1 : (m.map fun p => (enc p.1, p.2)).filter (fun q : Value × Value => !decide (q.1 = enc k)) = (AL.del k m).map fun p => (enc p.1, p.2) := by
        rw [hf, List.filter_map]
        congr 1
        refine List.filter_congr fun p _ => ?_
        simp only [Function.comp_def]
        by_cases e : p.1 = k
        · simp [e]
        · have : ¬ enc p.1 = enc k := fun e' => e (henc _ _ e')
          simp [e, this]
      rw [e1] at hperm
      refine List.Perm.trans (List.Perm.of_eq ?_) hperm
      have hnd : es.toList.Pairwise (fun x y => x.key ≠ y.key) := ((stamped_iff es clock).1 hst).2.2
      have gen : ∀ (l : List MapEntry) (j : Nat), l.Pairwise (fun x y => x.key ≠ y.key) → l[j]? = some x → (l.map fun x => (x.key, x.val)).eraseIdx j = (l.map fun x => (x.key, x.val)).filter (fun q : Value × Value => !decide (q.1 = enc k)) := by
        intro l
        induction l with
        | nil => intro j _ hx; simp at hx
        | cons y r ih =>
          intro j hpw hx
          obtain ⟨p1, p2⟩ := List.pairwise_cons.1 hpw
          cases j with
          | zero =>
            simp at hx; subst hx
            simp only [List.map_cons, List.eraseIdx_zero, List.tail_cons, List.filter_cons, h3, decide_true, Bool.not_true, Bool.false_eq_true, if_false]
            refine (List.filter_eq_self.2 fun q hq => ?_).symm
            obtain ⟨z, hz, rfl⟩ := List.mem_map.1 hq
            simp only [Bool.not_eq_true', decide_eq_false_iff_not]
            exact fun e => p1 z hz (by rw [h3, e])
          | succ j =>
            have hx' : r[j]? = some x := by simpa using hx
            have hy : ¬ y.key = enc k := fun e => p1 x (List.mem_of_getElem? hx') (by rw [e, h3])
            simp only [List.map_cons, List.eraseIdx_cons_succ, List.filter_cons, hy, decide_false, Bool.not_false, if_true, ih j p2 hx']
      exact gen _ _ hnd h2
    · rcases K.find W (enc k) hk es.toList h.entryOk with ⟨_, g1⟩ | ⟨j', x', g1, g2, g3⟩
      · exact absurd h3 (g1 x (List.mem_of_getElem? h2))
      · have hjj : j' = j := by
          have hnd : (es.toList.map (·.key)).Nodup := hst.2.2
          have hl1 : j' < es.toList.length := (List.getElem?_eq_some_iff.1 g2).1
          have hl2 : j < es.toList.length := (List.getElem?_eq_some_iff.1 h2).1
          have k1 : (es.toList.map (·.key))[j']? = some (enc k) := by simp [g2, g3]
          have k2 : (es.toList.map (·.key))[j]? = some (enc k) := by simp [h2, h3]
          exact (List.getElem?_inj (by simpa using hl1) hnd).1 (k1.trans k2.symm)
        subst hjj
        simp [Instr.mapUpdate, run_underlying ht, MapKept.run_getObj_map hb, K.check W false _ hk, g1, hj, h3, K.stays W _ hk, MapKept.run_setObj_map _ hb, Result.andThen, setBlock]

/-- 'delete(m, k)'. -/
theorem MapObj.drop [DecidableEq κ] (h : MapObj ok enc m o) (K : KeyT P kT ok) (henc : ∀ a b, enc a = enc b → a = b) (ht : P.underlying t = some (.map kT e)) (hk : ok (enc k)) :
    ∃ o', MapObj ok enc (AL.del k m) o' ∧ ∀ (W : World) (ty : TypeId), W.heap[b]? = some o → (Builtin.delete_ #[t, kT] ty #[.map (some b), enc k]).run P W = .ok (.tuple #[]) (setBlock W b o') := by
  classical
  obtain ⟨es, clock, rfl, hst, hsz, hp⟩ := h.ex
  have hoks : ∀ p ∈ AL.del k m, ok (enc p.1) := fun p hp' => h.oks p (AL.mem_del.1 hp').1
  rcases K.find default (enc k) hk es.toList h.entryOk with ⟨h1, h2⟩ | ⟨j, x, h1, h2, h3⟩
  · have hd : AL.del k m = m := by
      refine List.filter_eq_self.2 fun p hp' => ?_
      obtain ⟨x, hx, e1, _⟩ := h.entryOf hp'
      simp only [Bool.not_eq_true', decide_eq_false_iff_not]
      exact fun e => h2 x hx (by rw [e1, e])
    refine ⟨.map es clock, ⟨⟨_, _, rfl, hst, hsz, by rw [hd]; exact hp⟩, hoks⟩, fun W ty hb => ?_⟩
    rcases K.find W (enc k) hk es.toList h.entryOk with ⟨g1, _⟩ | ⟨j, x, _, g2, g3⟩
    · simp [Builtin.delete_, run_underlying ht, MapKept.run_getObj_map hb, K.check W _ _ hk, g1, MapKept.run_setObj_map _ hb, Result.andThen, setBlock]
    · exact absurd g3 (h2 x (List.mem_of_getElem? g2))
  · have hj : es[j]? = some x := by simpa using h2
    have hjl : j < es.size := (Array.getElem?_eq_some_iff.1 hj).1
    have hsub : (es.eraseIdxIfInBounds j).toList = es.toList.eraseIdx j := by
      unfold Array.eraseIdxIfInBounds
      rw [dif_pos hjl]
      simp
    have hnd : es.toList.Pairwise (fun x y => x.key ≠ y.key) := ((stamped_iff es clock).1 hst).2.2
    have gen : ∀ (l : List MapEntry) (j : Nat), l.Pairwise (fun x y => x.key ≠ y.key) → l[j]? = some x → (l.map fun x => (x.key, x.val)).eraseIdx j = (l.map fun x => (x.key, x.val)).filter (fun q : Value × Value => !decide (q.1 = enc k)) := by
      intro l
      induction l with
      | nil => intro j _ hx; simp at hx
      | cons y r ih =>
        intro j hpw hx
        obtain ⟨p1, p2⟩ := List.pairwise_cons.1 hpw
        cases j with
        | zero =>
          simp at hx; subst hx
          simp only [List.map_cons, List.eraseIdx_zero, List.tail_cons, List.filter_cons, h3, decide_true, Bool.not_true, Bool.false_eq_true, if_false]
          refine (List.filter_eq_self.2 fun q hq => ?_).symm
          obtain ⟨z, hz, rfl⟩ := List.mem_map.1 hq
          simp only [Bool.not_eq_true', decide_eq_false_iff_not]
          exact fun e => p1 z hz (by rw [h3, e])
        | succ j =>
          have hx' : r[j]? = some x := by simpa using hx
          have hy : ¬ y.key = enc k := fun e => p1 x (List.mem_of_getElem? hx') (by rw [e, h3])
          simp only [List.map_cons, List.eraseIdx_cons_succ, List.filter_cons, hy, decide_false, Bool.not_false, if_true, ih j p2 hx']
    refine ⟨.map (es.eraseIdxIfInBounds j) clock, ⟨⟨_, _, rfl, stamped_erase hst j, Nat.le_trans (MapFrom.size_erase es j) hsz, ?_⟩, hoks⟩, fun W ty hb => ?_⟩
    · rw [hsub, map_eraseIdx, gen _ _ hnd h2]
      have hperm := hp.filter (fun q : Value × Value => !decide (q.1 = enc k))
      have e1 : (m.map fun p => (enc p.1, p.2)).filter (fun q : Value × Value => !decide (q.1 = enc k)) = (AL.del k m).map fun p => (enc p.1, p.2) := by
        show _ = List.map _ (m.filter (fun p => !decide (p.1 = k)))
        rw [List.filter_map]
        congr 1
        refine List.filter_congr fun p _ => ?_
        simp only [Function.comp_def]
        by_cases e : p.1 = k
        · simp [e]
        · have : ¬ enc p.1 = enc k := fun e' => e (henc _ _ e')
          simp [e, this]
      rw [e1] at hperm
      exact hperm
    · rcases K.find W (enc k) hk es.toList h.entryOk with ⟨_, g1⟩ | ⟨j', x', g1, g2, g3⟩
      · exact absurd h3 (g1 x (List.mem_of_getElem? h2))
      · have hjj : j' = j := by
          have hnd : (es.toList.map (·.key)).Nodup := hst.2.2
          have hl1 : j' < es.toList.length := (List.getElem?_eq_some_iff.1 g2).1
          have k1 : (es.toList.map (·.key))[j']? = some (enc k) := by simp [g2, g3]
          have k2 : (es.toList.map (·.key))[j]? = some (enc k) := by simp [h2, h3]
          exact (List.getElem?_inj (by simpa using hl1) hnd).1 (k1.trans k2.symm)
        subst hjj
        simp [Builtin.delete_, run_underlying ht, MapKept.run_getObj_map hb, K.check W _ _ hk, g1, MapKept.run_setObj_map _ hb, Result.andThen, setBlock]

/-- 'len(m)'. -/
theorem MapObj.len (h : MapObj ok enc m o) (ht : P.underlying t = some (.map kT e)) (W : World) (hb : W.heap[b]? = some o) (ty : TypeId) :
    (Builtin.len_ #[t] ty #[.map (some b)]).run P W = .ok (.int .i64 m.length) W := by
  obtain ⟨es, clock, rfl, hst, hsz, hp⟩ := h.ex
  have := h.size
  simp [Builtin.len_, run_underlying ht, MapKept.run_getObj_map hb, Result.andThen, this, goInt]

/-! ### a range over a map that does not change -/
/-- Block r is an iterator over the map in block b, with the entries of rem still to come. -/
def IterAt (w : World) (enc : κ → Value) (b r : Nat) (o : Obj) (rem : List (κ × Value)) : Prop :=
  ∃ es clock since seen, o = .map es clock ∧ w.heap[r]? = some (.mapIter (some b) since seen clock) ∧ since ≤ clock ∧ (∀ x ∈ es.toList, x.born < since) ∧
    ((es.toList.filter fun x => !seen.contains x.born).map fun x => (x.key, x.val)).Perm (rem.map fun p => (enc p.1, p.2))

theorem IterAt.kept {w w' : World} {r : Nat} {rem : List (κ × Value)} (h : IterAt w enc b r o rem) (hh : w'.heap[r]? = w.heap[r]?) : IterAt w' enc b r o rem := by
  obtain ⟨es, c, s, sn, h1, h2, h3⟩ := h
  exact ⟨es, c, s, sn, h1, hh.trans h2, h3⟩

theorem IterAt.perm {w : World} {r : Nat} {rem rem' : List (κ × Value)} (h : IterAt w enc b r o rem) (hp : rem.Perm rem') : IterAt w enc b r o rem' := by
  obtain ⟨es, c, s, sn, h1, h2, h3, h4, h5⟩ := h
  exact ⟨es, c, s, sn, h1, h2, h3, h4, h5.trans (hp.map _)⟩
/-- How many entries are still to come: for a loop's measure. -/
def iterLeft (w : World) (b r : Nat) : Nat :=
  match w.heap[r]?, w.heap[b]? with
  | some (.mapIter _ _ seen _), some (.map es _) => (es.toList.filter fun x => !seen.contains x.born).length
  | _, _ => 0
theorem IterAt.left {w : World} {r : Nat} {rem : List (κ × Value)} (h : IterAt w enc b r o rem) (hb : w.heap[b]? = some o) : iterLeft w b r = rem.length := by
  obtain ⟨es, c, s, sn, rfl, h2, h3, h4, h5⟩ := h
  have := h5.length_eq
  simp only [List.length_map] at this
  simp only [iterLeft, h2, hb]
  exact this
theorem perm_map_cons {α β : Type} {f : α → β} {l : List α} {p : β} {r : List β} (h : (l.map f).Perm (p :: r)) : ∃ q l', p = f q ∧ l.Perm (q :: l') ∧ r.Perm (l'.map f) := by
  obtain ⟨q, hq, e⟩ := List.mem_map.1 (h.mem_iff.2 (List.mem_cons_self))
  obtain ⟨s, t, rfl⟩ := List.append_of_mem hq
  refine ⟨q, s ++ t, e.symm, List.perm_middle, ?_⟩
  have h2 : ((s ++ q :: t).map f).Perm (f q :: (s ++ t).map f) := (List.perm_middle (a := q) (l₁ := s) (l₂ := t)).map f
  rw [e] at h2
  exact (List.perm_cons p).1 (h.symm.trans h2)

/-- 'range m': the iterator is laid. -/
theorem MapObj.range (h : MapObj ok enc m o) (ht : P.underlying t = some (.map kT e)) (W : World) (hb : W.heap[b]? = some o) :
    ∃ it, (Instr.range t (.map (some b))).run P W = .ok (.pointer (some ⟨W.heap.size, 0, none⟩)) (W.alloc it) ∧ IterAt (W.alloc it) enc b W.heap.size o m := by
  obtain ⟨es, clock, rfl, hst, hsz, hp⟩ := h.ex
  refine ⟨.mapIter (some b) clock #[] clock, ?_, ⟨es, clock, clock, #[], rfl, heap_alloc_new W _, Nat.le_refl _, hst.1, ?_⟩⟩
  · simp [Instr.range, run_underlying ht, MapKept.run_getObj_map hb, Result.andThen]
  · have : (es.toList.filter fun x => !(#[] : Array Nat).contains x.born) = es.toList := List.filter_eq_self.2 fun x _ => by simp
    rw [this]; exact hp

/-- 'next': nothing is left, or one of those still to come; then 'entry' gives it. -/
theorem IterAt.next {w : World} {r : Nat} {rem : List (κ × Value)} (h : IterAt w enc b r o rem) (hb : w.heap[b]? = some o) (hm : MapObj ok enc m o) :
    (rem = [] ∧ ∀ ty, (Instr.next (.pointer (some ⟨r, 0, none⟩)) false ty).run P w = .ok (.tuple #[.bool false]) w) ∨
    ∃ p rem' w1 it, rem.Perm (p :: rem') ∧ (w1 = w ∨ w1 = w.drew) ∧ (∀ ty, (Instr.next (.pointer (some ⟨r, 0, none⟩)) false ty).run P w = .ok (.tuple #[.bool true, enc p.1, p.2]) (setBlock w1 r it)) ∧
      IterAt (setBlock w1 r it) enc b r o rem' ∧ (Instr.entry (.pointer (some ⟨r, 0, none⟩))).run P (setBlock w1 r it) = .ok (.tuple #[enc p.1, p.2]) (setBlock w1 r it) := by
  classical
  obtain ⟨es, clock, since, seen, rfl, hr, hsc, hold, hp⟩ := h
  obtain ⟨⟨es', c', e1, hst, hsz, _⟩, _⟩ := hm
  cases e1
  have hl : (leftOf es seen).toList = es.toList.filter fun x => !seen.contains x.born := by simp [leftOf]
  rcases run_next_at (P := P) w 0 r b since clock seen es clock hr hb hold hsc with ⟨h0, hrun⟩ | ⟨x, hx, w1, hw1, hrun⟩
  · left
    refine ⟨?_, fun _ => hrun⟩
    have : (es.toList.filter fun x => !seen.contains x.born) = [] := by rw [← hl]; exact List.eq_nil_of_length_eq_zero (by simpa using h0)
    rw [this] at hp
    exact List.eq_nil_of_length_eq_zero (by simpa using hp.length_eq.symm)
  · right
    rw [hl] at hx
    have hmem := hp.mem_iff.1 (List.mem_map.2 ⟨x, hx, rfl⟩)
    obtain ⟨p, hpm, hpe⟩ := List.mem_map.1 hmem
    simp only [Prod.mk.injEq] at hpe
    obtain ⟨s, t, hst'⟩ := List.append_of_mem hpm
    have hperm : rem.Perm (p :: (s ++ t)) := by rw [hst']; exact List.perm_middle
    have hne : r ≠ b := by
      intro e; rw [e] at hr; rw [hr] at hb; cases hb
    have hr1 : w1.heap[r]? = some (.mapIter (some b) since seen clock) := by rcases hw1 with rfl | rfl <;> exact hr
    have hb1 : w1.heap[b]? = some (.map es clock) := by rcases hw1 with rfl | rfl <;> exact hb
    have hrs := heap_setBlock_eq (o' := .mapIter (some b) since (seen.push x.born) clock) hr1
    have hbs : (setBlock w1 r (.mapIter (some b) since (seen.push x.born) clock)).heap[b]? = some (.map es clock) := by rw [heap_setBlock_ne _ _ (Ne.symm hne)]; exact hb1
    have hxe : x ∈ es.toList := (List.mem_filter.1 hx).1
    refine ⟨p, s ++ t, w1, .mapIter (some b) since (seen.push x.born) clock, hperm, hw1, fun _ => by rw [hpe.1, hpe.2]; exact hrun, ⟨es, clock, since, seen.push x.born, rfl, hrs, hsc, hold, ?_⟩, ?_⟩
    · have hb2 : (es.toList.map (·.born)).Nodup := hst.2.1
      have hf : (es.toList.filter fun y => !(seen.push x.born).contains y.born) = (es.toList.filter fun y => !seen.contains y.born).filter fun y => !decide (y.born = x.born) := by
        rw [List.filter_filter]
        refine List.filter_congr fun y _ => ?_
        simp only [Array.contains_push]
        by_cases e : y.born = x.born <;> simp [e, beq_iff_eq]
      rw [hf]
      have hb3 : ((es.toList.filter fun y => !seen.contains y.born).map (·.born)).Nodup := hb2.sublist (List.filter_sublist.map _)
      obtain ⟨u, v, huv⟩ := List.append_of_mem hx
      rw [huv] at hb3 hp ⊢
      simp only [List.map_append, List.map_cons, List.nodup_append, List.nodup_cons, List.mem_map, List.mem_cons] at hb3
      have e1 : (u ++ x :: v).filter (fun y => !decide (y.born = x.born)) = u ++ v := by
        rw [List.filter_append, List.filter_cons_of_neg (by simp)]
        congr 1
        · refine List.filter_eq_self.2 fun y hy => ?_
          simp only [Bool.not_eq_true', decide_eq_false_iff_not]
          exact fun e => hb3.2.2 y.born ⟨y, hy, rfl⟩ x.born (Or.inl rfl) e
        · refine List.filter_eq_self.2 fun y hy => ?_
          simp only [Bool.not_eq_true', decide_eq_false_iff_not]
          exact fun e => hb3.2.1.1 ⟨y, hy, e⟩
      rw [e1]
      have h1 : ((u ++ x :: v).map fun x => (x.key, x.val)).Perm ((x.key, x.val) :: (u ++ v).map fun x => (x.key, x.val)) := by
        simp only [List.map_append, List.map_cons]; exact List.perm_middle
      have h2 : (rem.map fun p => (enc p.1, p.2)).Perm ((enc p.1, p.2) :: (s ++ t).map fun p => (enc p.1, p.2)) := by
        simpa using hperm.map fun p => (enc p.1, p.2)
      have h3 := (h1.symm.trans hp).trans h2
      rw [hpe.1, hpe.2] at h3
      exact (List.perm_cons _).1 h3
    · have hfind : es.find? (fun y => y.born == x.born) = some x := by
        have hb2 : (es.toList.map (·.born)).Nodup := hst.2.1
        rw [← Array.find?_toList]
        obtain ⟨u, v, huv⟩ := List.append_of_mem hxe
        rw [huv] at hb2 ⊢
        simp only [List.map_append, List.map_cons, List.nodup_append, List.nodup_cons, List.mem_map, List.mem_cons] at hb2
        rw [List.find?_append, List.find?_eq_none.2 (fun y hy => by simpa using fun e => hb2.2.2 y.born ⟨y, hy, rfl⟩ x.born (Or.inl rfl) e)]
        simp
      simp [Instr.entry, getObj, Sem.run, hrs, hbs, Result.andThen, hfind, hpe.1, hpe.2]
end

end Go.Proofs.Ytfmfgckfeojfcaa
