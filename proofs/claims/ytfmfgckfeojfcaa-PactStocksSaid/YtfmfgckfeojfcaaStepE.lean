/- Walks of package pact: the question whether a change is possible. -/
import Derived.Test.YtfmfgckfeojfcaaStepD
import Derived.Test.YtfmfgckfeojfcaaOk
set_option linter.unusedSimpArgs false
set_option linter.unusedVariables false
namespace Go.Proofs.Ytfmfgckfeojfcaa
open Go.RowKit Go.Maps Go.ChangeMaps

/-- An operation that only reads block b, in the worlds that a region meets. -/
theorem looks {α : Type} {P : Program} {x : Sem α} {w : World} {b : Nat} {o : Obj} {R : α} (hb : w.heap[b]? = some o) (hx : ∀ W : World, W.heap[b]? = some o → x.run P W = .ok R W) :
    x.run P w = .ok R w ∧ x.run P w.drew = .ok R w.drew ∧ x.run P w.drew.drew = .ok R w.drew.drew ∧ x.run P w.drew.drew.drew = .ok R w.drew.drew.drew ∧
    ∀ A, x.run P (w.alloc A) = .ok R (w.alloc A) ∧ x.run P (w.alloc A).drew = .ok R (w.alloc A).drew ∧ x.run P (w.alloc A).drew.drew = .ok R (w.alloc A).drew.drew ∧ x.run P (w.alloc A).drew.drew.drew = .ok R (w.alloc A).drew.drew.drew ∧
      ∀ B, x.run P ((w.alloc A).alloc B) = .ok R ((w.alloc A).alloc B) ∧ x.run P ((w.alloc A).alloc B).drew = .ok R ((w.alloc A).alloc B).drew ∧ x.run P ((w.alloc A).alloc B).drew.drew = .ok R ((w.alloc A).alloc B).drew.drew ∧ x.run P ((w.alloc A).alloc B).drew.drew.drew = .ok R ((w.alloc A).alloc B).drew.drew.drew := by
  have ha : ∀ A, (w.alloc A).heap[b]? = some o := fun A => (alloc_other w A (lt_of hb)).trans hb
  have hab : ∀ A B, ((w.alloc A).alloc B).heap[b]? = some o := fun A B => (alloc_other _ B (by simp; have := lt_of hb; omega)).trans (ha A)
  exact ⟨hx _ hb, hx _ hb, hx _ hb, hx _ hb, fun A => ⟨hx _ (ha A), hx _ (ha A), hx _ (ha A), hx _ (ha A), fun B => ⟨hx _ (hab A B), hx _ (hab A B), hx _ (hab A B), hx _ (hab A B)⟩⟩⟩
/-- .. that turns block b. -/
theorem turns {α : Type} {P : Program} {x : Sem α} {w : World} {b : Nat} {o o' : Obj} {R : α} (hb : w.heap[b]? = some o) (hx : ∀ W : World, W.heap[b]? = some o → x.run P W = .ok R (setBlock W b o')) :
    x.run P w = .ok R (setBlock w b o') ∧ x.run P w.drew = .ok R (setBlock w.drew b o') ∧ x.run P w.drew.drew = .ok R (setBlock w.drew.drew b o') ∧
    ∀ A, x.run P (w.alloc A) = .ok R (setBlock (w.alloc A) b o') ∧ x.run P (w.alloc A).drew = .ok R (setBlock (w.alloc A).drew b o') ∧ x.run P (w.alloc A).drew.drew = .ok R (setBlock (w.alloc A).drew.drew b o') ∧ x.run P (w.alloc A).drew.drew.drew = .ok R (setBlock (w.alloc A).drew.drew.drew b o') := by
  have ha : ∀ A, (w.alloc A).heap[b]? = some o := fun A => (alloc_other w A (lt_of hb)).trans hb
  exact ⟨hx _ hb, hx _ hb, hx _ hb, fun A => ⟨hx _ (ha A), hx _ (ha A), hx _ (ha A), hx _ (ha A)⟩⟩

/-- A block that holds a letter. -/
def BoxM (w : World) (b : Nat) (m : Mail) : Prop := w.heap[b]? = some (.cells m.cells.toArray 77 (0, 0))
theorem BoxM.cells {w : World} {b : Nat} {m : Mail} (h : BoxM w b m) : w.cell? ⟨b, 0, none⟩ = some (.int .i64 m.src) ∧ w.cell? ⟨b, 1, none⟩ = some (.int .i64 m.dst) ∧ w.cell? ⟨b, 2, none⟩ = some (.int .i64 m.kind) ∧ w.cell? ⟨b, 3, none⟩ = some (.int .i64 m.tx) ∧ w.cell? ⟨b, 4, none⟩ = some (.int .i64 m.n) ∧ b < w.heap.size :=
  ⟨cell_of h rfl, cell_of h rfl, cell_of h rfl, cell_of h rfl, cell_of h rfl, lt_of h⟩
theorem BoxM.new (w : World) (m : Mail) : BoxM (w.alloc (.cells #[.int .i64 m.src, .int .i64 m.dst, .int .i64 m.kind, .int .i64 m.tx, .int .i64 m.n] 77)) w.heap.size m := alloc_same w _
theorem BoxM.only {S : Nat → Prop} {w w' : World} {b : Nat} {m : Mail} (h : BoxM w b m) (ho : Only S w w') (hs : ¬ S b) : BoxM w' b m := ho.same h hs

theorem get_promV (k : Int) (m : List (Int × (Int × Int))) : ∃ a b, (AL.get? k (promV m)).getD (.agg #[.int .i64 0, .int .i64 0]) = .agg #[.int .i64 a, .int .i64 b] ∧ ∀ p, AL.get? k m = some p → a = p.1 ∧ b = p.2 := by
  have h := AL.get?_map (fun _ (p : Int × Int) => Value.agg #[.int .i64 p.1, .int .i64 p.2]) k m
  have h' : AL.get? k (promV m) = (AL.get? k m).map fun p => Value.agg #[.int .i64 p.1, .int .i64 p.2] := h
  rw [h']
  cases hg : AL.get? k m with
  | none => exact ⟨0, 0, rfl, fun p hp => by cases hp⟩
  | some p => exact ⟨p.1, p.2, rfl, fun q hq => by cases hq; exact ⟨rfl, rfl⟩⟩
theorem get_setV (k : Int) (m : List (Int × Unit)) : (AL.get? k (setV m)).getD (.bool false) = .bool (AL.has k m) := by
  have h := AL.get?_map (fun _ (_ : Unit) => Value.bool true) k m
  have h' : AL.get? k (setV m) = (AL.get? k m).map fun _ => Value.bool true := h
  rw [h', AL.has_eq_isSome]
  cases AL.get? k m <;> rfl
theorem has_promV (k : Int) (m : List (Int × (Int × Int))) : AL.has k (promV m) = AL.has k m := AL.has_map (fun _ (p : Int × Int) => Value.agg #[.int .i64 p.1, .int .i64 p.2]) k m
theorem has_setV (k : Int) (m : List (Int × Unit)) : AL.has k (setV m) = AL.has k m := AL.has_map (fun _ (_ : Unit) => Value.bool true) k m
theorem zero_prom (w : World) : (zeroValue 69).run Try.prog w = .ok (.agg #[.int .i64 0, .int .i64 0]) w := by kernel_rfl
theorem zero_bool (w : World) : (zeroValue 4).run Try.prog w = .ok (.bool false) w := by kernel_rfl

section
variable {w : World} {L : Lay} {N : Net} {i : Nat} {s : Site}
theorem Rep.lookProm (h : Rep w L N) (hs : N.sites[i]? = some s) {k : Int} (hk : i64 k) : ∃ a b, (∀ p, AL.get? k s.promised = some p → a = p.1 ∧ b = p.2) ∧ ∃ o, w.heap[L.at_ (.prom i)]? = some o ∧ ∀ W : World, W.heap[L.at_ (.prom i)]? = some o →
    (Instr.lookup 60 (.map (some (L.at_ (.prom i)))) (.int .i64 k) true).run Try.prog W = .ok (.tuple #[.agg #[.int .i64 a, .int .i64 b], .bool (AL.has k s.promised)]) W := by
  obtain ⟨o, ho, hM⟩ := h.promAt hs
  obtain ⟨a, b, hab, hp⟩ := get_promV k s.promised
  refine ⟨a, b, hp, o, ho, fun W hW => ?_⟩
  have := hM.look keyI encI_inj Try.underlying60 zero_prom (okI_of hk) true W hW
  rw [this, hab, has_promV]; rfl
theorem MapObj.lookSet {m : List (Int × Unit)} {o : Obj} (hM : MapObj okI (Value.int .i64) (setV m) o) {k : Int} (hk : i64 k) (b : Nat) (W : World) (hW : W.heap[b]? = some o) :
    (Instr.lookup 61 (.map (some b)) (.int .i64 k) false).run Try.prog W = .ok (.bool (AL.has k m)) W := by
  have := hM.look keyI encI_inj Try.underlying61 zero_bool (okI_of hk) false W hW
  rw [this, get_setV]; rfl
end

/-- What the walk carries of a moved net: the pointers stay. -/
theorem Moves.of_alloc {w w' : World} {L : Lay} {N N' : Net} {o : Obj} (h : Rep w L N) (k : Moves (w.alloc o) L N w' N') : Moves w L N w' N' := let ⟨L', k⟩ := k; ⟨L', ((Moved.refl h).alloc o).trans k⟩

theorem Moves.after {w W w' : World} {L L1 : Lay} {N N1 N' : Net} (h : Moved w L N W L1 N1) (k : Sents W L1 N1 w' N') : Moves w L N w' N' := let ⟨L', k⟩ := k; ⟨L', h.trans k.moved⟩
theorem Rep.below {w w' : World} {L : Lay} {N : Net} (h : Rep w L N) (hb : Below w.heap.size w w') : Rep w' L N := h.kept fun b hb' => hb.block b (by rcases hb' with hb' | hb'; exact h.mut_lt hb'; exact h.fix_lt hb')
theorem Moved.below {w W w' : World} {L L1 : Lay} {N N1 : Net} (h : Moved w L N W L1 N1) (hb : Below W.heap.size W w') : Moved w L N w' L1 N1 :=
  ⟨h.rep.below hb, h.only.trans (Only.of_below hb) fun _ _ h => h, h.net, h.sites, h.muts, h.fixs⟩
theorem BoxM.below {w w' : World} {b : Nat} {m : Mail} (h : BoxM w b m) (hb : Below w.heap.size w w') : BoxM w' b m := (hb.block b (lt_of h)).trans h
theorem BoxM.alloc {w : World} {b : Nat} {m : Mail} (h : BoxM w b m) (o : Obj) : BoxM (w.alloc o) b m := (alloc_other w o (lt_of h)).trans h
theorem BoxM.drew {w : World} {b : Nat} {m : Mail} (h : BoxM w b m) : BoxM w.drew b m := h
theorem BoxM.block {w : World} {b : Nat} {m : Mail} (h : BoxM w b m) {i : Nat} (hi : b ≠ i) (o : Obj) : BoxM (setBlock w i o) b m := (heap_setBlock_ne w o hi).trans h
/-- A map of the net's turns: the net comes to N1. -/
theorem Moved.turn {w W : World} {L L1 : Lay} {N N1 N2 : Net} (h : Moved w L N W L1 N1) {t : Tag} {o : Obj} (ht : Live L1 N1 t) (hr : Rep (setBlock W (L1.at_ t) o) L1 N2) (hm : ∀ t, Live L1 N2 t → Live L1 N1 t) (hf : ∀ b, Fix L1 N2 b → Fix L1 N1 b) : Moved w L N (setBlock W (L1.at_ t) o) L1 N2 :=
  ⟨hr, h.only.setBlock _ o (by rcases h.muts _ ⟨t, ht, rfl⟩ with h1 | h1; exact .inl h1; exact .inr h1), h.net, h.sites, fun b ⟨t', ht', e⟩ => h.muts b ⟨t', hm t' ht', e⟩, fun b hb => h.fixs b (hf b hb)⟩

theorem live_setSite {L : Lay} {N : Net} {i : Nat} {s s' : Site} (hs : N.sites[i]? = some s) (hd : ∀ g, s'.deals g = s.deals g) (t : Tag) (ht : Live L (N.setSite i s') t) : Live L N t := by
  cases t <;> simp only [Live, setSite_length] at ht ⊢ <;> first | exact ht | skip
  rw [setSite_deal hs] at ht
  split at ht
  · rename_i e; subst e; rw [hd] at ht; rw [deal_at hs]; exact ht
  · exact ht
theorem fix_setSite {L : Lay} {N : Net} {i : Nat} {s s' : Site} (hs : N.sites[i]? = some s) (hd : ∀ g, s'.deals g = s.deals g) (b : Nat) (hb : Fix L (N.setSite i s') b) : Fix L N b := by
  obtain ⟨g, j, tx, d, h, e⟩ := hb
  refine ⟨g, j, tx, d, ?_, e⟩
  rw [setSite_deal hs] at h
  split at h
  · rename_i e; subst e; rw [hd] at h; rw [deal_at hs]; exact h
  · exact h

theorem setSite_twice (N : Net) (i : Nat) (a b : Site) : (N.setSite i a).setSite i b = N.setSite i b := by simp [Net.setSite]
theorem setSite_at {N : Net} {i : Nat} {s : Site} (hs : N.sites[i]? = some s) (a : Site) : (N.setSite i a).sites[i]? = some a := by rw [setSite_get hs, if_pos rfl]
theorem Moved.setStock {w W : World} {L L1 : Lay} {N N1 : Net} {i : Nat} {s : Site} (h : Moved w L N W L1 N1) (hs : N1.sites[i]? = some s) (v : Int) : Moved w L N (W.setCell ⟨L1.at_ .sites, i * 7, none⟩ (.int .i64 v)) L1 (N1.setSite i { s with stock := v }) :=
  ⟨h.rep.setStock hs v, h.only.setCell _ _ (h.muts _ ⟨.sites, trivial, rfl⟩), h.net, h.sites, fun b ⟨t, ht, e⟩ => h.muts b ⟨t, live_setSite hs (fun g => by cases g <;> rfl) t ht, e⟩, fun b hb => h.fixs b (fix_setSite hs (fun g => by cases g <;> rfl) b hb)⟩
theorem Moved.setDown {w W : World} {L L1 : Lay} {N N1 : Net} {i : Nat} {s : Site} (h : Moved w L N W L1 N1) (hs : N1.sites[i]? = some s) (v : Bool) : Moved w L N (W.setCell ⟨L1.at_ .sites, i * 7 + 1, none⟩ (.bool v)) L1 (N1.setSite i { s with down := v }) :=
  ⟨h.rep.setDown hs v, h.only.setCell _ _ (h.muts _ ⟨.sites, trivial, rfl⟩), h.net, h.sites, fun b ⟨t, ht, e⟩ => h.muts b ⟨t, live_setSite hs (fun g => by cases g <;> rfl) t ht, e⟩, fun b hb => h.fixs b (fix_setSite hs (fun g => by cases g <;> rfl) b hb)⟩
theorem BoxM.cell {w : World} {b : Nat} {m : Mail} (h : BoxM w b m) {a : Addr} (ha : b ≠ a.block) (v : Value) : BoxM (w.setCell a v) b m := (setCell_other w a v ha).trans h

theorem put_promV (k : Int) (p : Int × Int) (m : List (Int × (Int × Int))) : AL.put k (Value.agg #[.int .i64 p.1, .int .i64 p.2]) (promV m) = promV (AL.put k p m) := AL.put_map (fun _ (p : Int × Int) => Value.agg #[.int .i64 p.1, .int .i64 p.2]) k p m
theorem put_setV (k : Int) (m : List (Int × Unit)) : AL.put k (Value.bool true) (setV m) = setV (AL.put k () m) := AL.put_map (fun _ (_ : Unit) => Value.bool true) k () m
theorem del_promV (k : Int) (m : List (Int × (Int × Int))) : AL.del k (promV m) = promV (AL.del k m) := AL.del_map (fun _ (p : Int × Int) => Value.agg #[.int .i64 p.1, .int .i64 p.2]) k m

section
variable {w W : World} {L L1 : Lay} {N N1 : Net} {i : Nat} {s : Site}
/-- 's.promised[k] = promise{..}'. -/
theorem Moved.putProm (h : Moved w L N W L1 N1) (hs : N1.sites[i]? = some s) {k : Int} (hk : i64 k) (p : Int × Int) (hlen : s.promised.length ≤ 1000) : ∃ o o', W.heap[L1.at_ (.prom i)]? = some o ∧
    (∀ W1 : World, W1.heap[L1.at_ (.prom i)]? = some o → (Instr.mapUpdate 60 (.map (some (L1.at_ (.prom i)))) (.int .i64 k) (.agg #[.int .i64 p.1, .int .i64 p.2])).run Try.prog W1 = .ok () (setBlock W1 (L1.at_ (.prom i)) o')) ∧
    ∀ W1, Moved w L N W1 L1 N1 → Moved w L N (setBlock W1 (L1.at_ (.prom i)) o') L1 (N1.setSite i { s with promised := AL.put k p s.promised }) := by
  obtain ⟨o, ho, hM⟩ := h.rep.promAt hs
  obtain ⟨o', hM', hrun⟩ := hM.update (b := L1.at_ (.prom i)) keyI encI_inj Try.underlying60 (okI_of hk) (.agg #[.int .i64 p.1, .int .i64 p.2]) (by simp [promV, maxLen]; omega) (AL.put_perm k _ (promV s.promised))
  rw [put_promV] at hM'
  exact ⟨o, o', ho, hrun, fun W1 h1 => h1.turn (t := .prom i) (by simp [Live]; exact siteLt hs) (h1.rep.setProm hs hM') (live_setSite hs fun g => by cases g <;> rfl) (fix_setSite hs fun g => by cases g <;> rfl)⟩
/-- 'delete(s.promised, k)'. -/
theorem Moved.delProm (h : Moved w L N W L1 N1) (hs : N1.sites[i]? = some s) {k : Int} (hk : i64 k) : ∃ o o', W.heap[L1.at_ (.prom i)]? = some o ∧
    (∀ (W1 : World) (ty : TypeId), W1.heap[L1.at_ (.prom i)]? = some o → (Builtin.delete_ #[60, 3] ty #[.map (some (L1.at_ (.prom i))), .int .i64 k]).run Try.prog W1 = .ok (.tuple #[]) (setBlock W1 (L1.at_ (.prom i)) o')) ∧
    ∀ W1, Moved w L N W1 L1 N1 → Moved w L N (setBlock W1 (L1.at_ (.prom i)) o') L1 (N1.setSite i { s with promised := AL.del k s.promised }) := by
  obtain ⟨o, ho, hM⟩ := h.rep.promAt hs
  obtain ⟨o', hM', hrun⟩ := hM.drop (b := L1.at_ (.prom i)) keyI encI_inj Try.underlying60 (okI_of hk)
  rw [del_promV] at hM'
  exact ⟨o, o', ho, hrun, fun W1 h1 => h1.turn (t := .prom i) (by simp [Live]; exact siteLt hs) (h1.rep.setProm hs hM') (live_setSite hs fun g => by cases g <;> rfl) (fix_setSite hs fun g => by cases g <;> rfl)⟩
/-- 's.kept[k] = true'. -/
theorem Moved.putKept (h : Moved w L N W L1 N1) (hs : N1.sites[i]? = some s) {k : Int} (hk : i64 k) (hlen : s.kept.length ≤ 1000) : ∃ o o', W.heap[L1.at_ (.kept i)]? = some o ∧
    (∀ W1 : World, W1.heap[L1.at_ (.kept i)]? = some o → (Instr.mapUpdate 61 (.map (some (L1.at_ (.kept i)))) (.int .i64 k) (.bool true)).run Try.prog W1 = .ok () (setBlock W1 (L1.at_ (.kept i)) o')) ∧
    ∀ W1, Moved w L N W1 L1 N1 → Moved w L N (setBlock W1 (L1.at_ (.kept i)) o') L1 (N1.setSite i { s with kept := AL.put k () s.kept }) := by
  obtain ⟨o, ho, hM⟩ := h.rep.keptAt hs
  obtain ⟨o', hM', hrun⟩ := hM.update (b := L1.at_ (.kept i)) keyI encI_inj Try.underlying61 (okI_of hk) (.bool true) (by simp [setV, maxLen]; omega) (AL.put_perm k _ (setV s.kept))
  rw [put_setV] at hM'
  exact ⟨o, o', ho, hrun, fun W1 h1 => h1.turn (t := .kept i) (by simp [Live]; exact siteLt hs) (h1.rep.setKept hs hM') (live_setSite hs fun g => by cases g <;> rfl) (fix_setSite hs fun g => by cases g <;> rfl)⟩
/-- 's.dropped[k] = true'. -/
theorem Moved.putDrop (h : Moved w L N W L1 N1) (hs : N1.sites[i]? = some s) {k : Int} (hk : i64 k) (hlen : s.dropped.length ≤ 1000) : ∃ o o', W.heap[L1.at_ (.drop i)]? = some o ∧
    (∀ W1 : World, W1.heap[L1.at_ (.drop i)]? = some o → (Instr.mapUpdate 61 (.map (some (L1.at_ (.drop i)))) (.int .i64 k) (.bool true)).run Try.prog W1 = .ok () (setBlock W1 (L1.at_ (.drop i)) o')) ∧
    ∀ W1, Moved w L N W1 L1 N1 → Moved w L N (setBlock W1 (L1.at_ (.drop i)) o') L1 (N1.setSite i { s with dropped := AL.put k () s.dropped }) := by
  obtain ⟨o, ho, hM⟩ := h.rep.dropAt hs
  obtain ⟨o', hM', hrun⟩ := hM.update (b := L1.at_ (.drop i)) keyI encI_inj Try.underlying61 (okI_of hk) (.bool true) (by simp [setV, maxLen]; omega) (AL.put_perm k _ (setV s.dropped))
  rw [put_setV] at hM'
  exact ⟨o, o', ho, hrun, fun W1 h1 => h1.turn (t := .drop i) (by simp [Live]; exact siteLt hs) (h1.rep.setDrop hs hM') (live_setSite hs fun g => by cases g <;> rfl) (fix_setSite hs fun g => by cases g <;> rfl)⟩
end

set_option maxRecDepth 20000 in
set_option maxHeartbeats 1000000 in
theorem asked_any {w : World} {L : Lay} {N : Net} (h : Rep w L N) (hok : N.Ok) {i : Nat} {s : Site} (hs : N.sites[i]? = some s) {m : Mail} (hm : m.Ok N.sites.length N.count) :
    Calls Try.prog 55 #[netPtr L, sitePtr L i, m.val] w fun e w' => e = .returned (.tuple #[]) ∧ Moves w L N w' (N.asked i s m) := by
  have hmail := hok.mail
  have hsok := hok.at hs
  have htx := hm.txI hok.count.2
  unfold netPtr sitePtr Mail.val
  obtain ⟨w1, hw1⟩ : ∃ w1, w1 = w.alloc (.cells #[.int .i64 m.src, .int .i64 m.dst, .int .i64 m.kind, .int .i64 m.tx, .int .i64 m.n] 77) := ⟨_, rfl⟩
  have hbox : BoxM w1 w.heap.size m := hw1 ▸ BoxM.new w m
  have hbm : ¬ Mut L N w.heap.size := h.new_mut (Nat.le_refl _)
  have hmv : Moved w L N w1 L N := hw1 ▸ (Moved.refl h).alloc _
  have hbc := hbox.cells
  have c2 := hmv.rep.site2 hs
  have c3 := hmv.rep.site3 hs
  have c4 := hmv.rep.site4 hs
  have hslt := hmv.rep.sitesLt
  obtain ⟨pa, pb, hpab, o, ho, hlook⟩ := hmv.rep.lookProm hs htx
  obtain ⟨o3, ho3, hM3⟩ := hmv.rep.keptAt hs
  obtain ⟨o4, ho4, hM4⟩ := hmv.rep.dropAt hs
  have hl := looks ho hlook
  have hl3 := looks ho3 (hM3.lookSet htx _)
  have hl4 := looks ho4 (hM4.lookSet htx _)
  have HW1 := Lib.hid hw1
  have HBM := Lib.hid hbm
  clear hlook hw1 h hM3 hM4 ho ho3 ho4 hbm hpab
  go_enter Try.func55, Try.ntmps55
  go_wp2
  rw [← HW1.out]
  generalize w.heap.size = bm at hbox hbc HBM ⊢
  clear HW1
  go_region
  go_wp2_with fail
  · refine (reply_any (hmv.rep.alloc _).drew hmail m 2).mono ?_
    rintro e w' ⟨rfl, hS⟩
    have hfin : Moves w L N w' (N.asked i s m) := by
      unfold Net.asked; rw [if_pos (by assumption)]
      exact Moves.after (hmv.alloc _).drew hS
    have HF := Lib.hid hfin
    clear hfin hS
    go_wp2
    go_end0
    exact ⟨rfl, HF.out⟩
  · have hnp : AL.has m.tx s.promised = false := by assumption
    go_region
    go_wp2_with fail
    · refine (reply_any (hmv.rep.alloc _).drew.drew hmail m 3).mono ?_
      rintro e w' ⟨rfl, hS⟩
      have hfin : Moves w L N w' (N.asked i s m) := by
        unfold Net.asked; rw [if_neg (by simp [hnp]), if_pos (by assumption)]
        exact Moves.after (hmv.alloc _).drew.drew hS
      have HF := Lib.hid hfin
      clear hfin hS
      go_wp2
      go_end0
      exact ⟨rfl, HF.out⟩
    · have hnd : AL.has m.tx s.dropped = false := by assumption
      go_region
      go_wp2_with fail
      · have hfin : ∀ A, Moves w L N (w1.alloc A).drew.drew.drew (N.asked i s m) := fun A => by
          unfold Net.asked; rw [if_neg (by simp [hnp]), if_neg (by simp [hnd]), if_pos (by assumption)]
          exact (hmv.alloc _).drew.drew.drew.moves
        have HF := Lib.hid hfin
        clear hfin
        go_wp2
        go_end0
        exact ⟨rfl, HF.out _⟩
      · have hnk : AL.has m.tx s.kept = false := by assumption
        refine (possible_any (hmv.alloc _).drew.drew.drew.rep hs hsok.stockB m.n hm.change (hsok.promLen hok.count) hsok.promC).mono ?_
        rintro e w2 ⟨rfl, hb2⟩
        have hmv2 := (hmv.alloc _).drew.drew.drew.below hb2
        have hbox2 := ((hbox.alloc _).drew.drew.drew).below hb2
        have hbc2 := hbox2.cells
        have d2 := hmv2.rep.site2 hs
        have d4 := hmv2.rep.site4 hs
        have hslt2 := hmv2.rep.sitesLt
        obtain ⟨o5, o5', ho5, hrun5, hto5⟩ := hmv2.putProm hs htx (m.src, m.n) (by have := hsok.promLen hok.count; omega)
        obtain ⟨o6, o6', ho6, hrun6, hto6⟩ := hmv2.putDrop hs htx (by have := hsok.dropLen hok.count; omega)
        have ht5 := turns ho5 hrun5
        have ht6 := turns ho6 hrun6
        have hne5 : bm ≠ L.at_ (.prom i) := fun e => HBM.out ⟨.prom i, by simp [Live]; exact siteLt hs, e.symm⟩
        have hne6 : bm ≠ L.at_ (.drop i) := fun e => HBM.out ⟨.drop i, by simp [Live]; exact siteLt hs, e.symm⟩
        have hfin5 := hto5 w2.drew hmv2.drew
        have hfin6 := hto6 w2.drew hmv2.drew
        have hbox5 := (hbox2.drew).block hne5 o5'
        have hbox6 := (hbox2.drew).block hne6 o6'
        have H5 := Lib.hid hfin5
        have H6 := Lib.hid hfin6
        have HB5 := Lib.hid hbox5
        have HB6 := Lib.hid hbox6
        clear hfin5 hfin6 hbox5 hbox6 hrun5 hrun6 hto5 hto6 ho5 ho6 hb2 hl hl3 hl4 c2 c3 c4 hslt hbc hbox hbox2 hmv2 hne5 hne6
        cases hposs : s.possible m.n with
        | true =>
          have HPo := Lib.hid hposs
          clear hposs
          go_wp2
          go_region
          have K5 := H5.out
          have KB5 := HB5.out
          generalize setBlock w2.drew (L.at_ (.prom i)) o5' = w3 at K5 KB5 ⊢
          have hbc3 := KB5.cells
          clear ht5 ht6 hbc2 d2 d4
          go_wp2_with fail
          refine (reply_any K5.rep hmail m 2).mono ?_
          rintro e w' ⟨rfl, hS⟩
          have hfin : Moves w L N w' (N.asked i s m) := by
            unfold Net.asked; rw [if_neg (by simp [hnp]), if_neg (by simp [hnd]), if_neg (by simp [hnk]), if_pos HPo.out]
            exact Moves.after K5 hS
          have HF := Lib.hid hfin
          clear hfin hS hbc3
          go_wp2
          go_end0
          exact ⟨rfl, HF.out⟩
        | false =>
          have HPo := Lib.hid hposs
          clear hposs
          go_wp2
          go_region
          have K6 := H6.out
          have KB6 := HB6.out
          generalize setBlock w2.drew (L.at_ (.drop i)) o6' = w3 at K6 KB6 ⊢
          have hbc3 := KB6.cells
          clear ht5 ht6 hbc2 d2 d4
          go_wp2_with fail
          refine (reply_any K6.rep hmail m 3).mono ?_
          rintro e w' ⟨rfl, hS⟩
          have hfin : Moves w L N w' (N.asked i s m) := by
            unfold Net.asked; rw [if_neg (by simp [hnp]), if_neg (by simp [hnd]), if_neg (by simp [hnk]), if_neg (by simp [HPo.out])]
            exact Moves.after K6 hS
          have HF := Lib.hid hfin
          clear hfin hS hbc3
          go_wp2
          go_end0
          exact ⟨rfl, HF.out⟩
end Go.Proofs.Ytfmfgckfeojfcaa
