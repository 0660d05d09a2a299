/- Walks of package pact: slices.Delete at letters; Deliver, Repeat, Lose. -/
import Derived.Test.YtfmfgckfeojfcaaStepK
import Derived.Test.YtfmfgckfeojfcaaStepJ
import Derived.Deep.RegionLaw
set_option linter.unusedSimpArgs false
set_option linter.unusedVariables false
namespace Go.Proofs.Ytfmfgckfeojfcaa
open Go.RowKit Go.Maps Go.ChangeMaps

theorem step_append_eq {P : Program} {ops : Array Oper} {o : Oper} {a : Act} {w w' : World} {K : Act → World → Prop} {Q : Exit → Act → World → Prop} {E : Prop} {v1 v2 R : Value}
    (hg : o.guard = none) (s x : Operand) (t : TypeId) (hop : o.op = Op.call { callee := Callee.builtin Builtin.append, args := #[s, x], argTypes := #[t, t] })
    (hs : a.eval s = v1) (hx : a.eval x = v2) (hrun : ∀ ty, (Builtin.append_ #[t, t] ty #[v1, v2]).run P w = .ok R w') (hK : K (a.put o.dst R) w') :
    if Region.wanted o (yielded ops a.tmps) = true then Oper.wp P o a w K Q else E := by
  have hw : Region.wanted o (yielded ops a.tmps) = true := by simp [Region.wanted, hg]
  rw [if_pos hw]
  unfold Oper.wp
  have := hrun o.type
  simp [execOp, hop, resolve, invoke, builtin, hs, hx, this, Result.andThen]
  exact hK

theorem run_clearLast {w : World} {g n cap : Nat} {xs : List Value} {o : Obj} (hb : w.heap[g]? = some o) (hr : IsRow 77 5 n cap xs o) (hk : n < cap) (m c : Nat) (hm1 : m = 1) :
    ∃ w' o', w'.heap[g]? = some o' ∧ IsRow 77 5 n cap xs o' ∧ Only (fun b => b = g) w w' ∧
      ∀ ty, (Builtin.clear_ #[48] ty #[.slice (some ⟨g, n * 5, none⟩) m c]).run Try.prog w = .ok (.tuple #[]) w' := by
  subst hm1
  obtain ⟨cur, rfl, hnc, hcm, hcs, hxl, ht⟩ := hr.ex
  have hcl : cur.toList.length = cap * 5 := by simpa using hcs
  have hst := run_storeCells_at Try.prog g (n * 5) 77 (List.replicate 5 (Value.int .i64 0)) 0 cur w hb (by simp; omega) (fun u hu => by rw [List.eq_of_mem_replicate hu]; rfl)
  simp only [Nat.add_zero] at hst
  refine ⟨w.setRow g (cur.toList.take (n * 5) ++ List.replicate 5 (Value.int .i64 0) ++ cur.toList.drop (n * 5 + 5)).toArray, _, setRow_heap w g cur _ 77 (0, 0) hb, ⟨_, rfl, hnc, hcm, ?_, hxl, ?_⟩, ?_, fun ty => ?_⟩
  · simp [hcl]; omega
  · simp only [List.toList_toArray, List.append_assoc]
    rw [List.take_append_of_le_length (by rw [List.length_take]; omega), List.take_take, Nat.min_self, ht]
  · refine ⟨rfl, rfl, rfl, by simp [World.setRow], fun b hb' hne => ?_⟩
    simp only [World.setRow, Array.getElem?_modify]
    rw [if_neg (fun e => hne e.symm)]
  · have hz := zero_mail
    have hzc : (Builtin.zeroCells (Value.cells (.agg #[.int .i64 0, .int .i64 0, .int .i64 0, .int .i64 0, .int .i64 0])) 1).toList = List.replicate 5 (Value.int .i64 0) := by
      simp [Builtin.zeroCells, Value.cells]
      rfl
    have hst' : (storeCells ⟨g, n * 5, none⟩ [Value.int .i64 0, Value.int .i64 0, Value.int .i64 0, Value.int .i64 0, Value.int .i64 0]).run Try.prog w = .ok () (w.setRow g (cur.toList.take (n * 5) ++ List.replicate 5 (Value.int .i64 0) ++ cur.toList.drop (n * 5 + 5)).toArray) := hst
    simp [Builtin.clear_, run_underlying Try.underlying48, hz, hzc, hst']

set_option maxRecDepth 20000 in
set_option maxHeartbeats 1000000 in
theorem delete_any {w : World} {g n cap k : Nat} {xs : List Value} {o : Obj} (hb : w.heap[g]? = some o) (hr : IsRow 77 5 n cap xs o) (h1 : ∀ u ∈ xs, u.oneCell' = true) (hk : k < n) (hn : cap ≤ 9223372036854775807) :
    Calls Try.prog 41 #[.slice (some ⟨g, 0, none⟩) n cap, .int .i64 k, .int .i64 (k + 1)] w fun e w' =>
      e = .returned (.slice (some ⟨g, 0, none⟩) (n - 1) cap) ∧ ∃ o', w'.heap[g]? = some o' ∧ IsRow 77 5 (n - 1) cap (xs.take (k * 5) ++ xs.drop ((k + 1) * 5)) o' ∧ Only (fun b => b = g) w w' := by
  have hnc : n ≤ cap := by obtain ⟨cur, rfl, hnc, _⟩ := hr.ex; exact hnc
  have hkn : ((k : Int) + 1 ≤ n) := by omega
  have hki : ¬ ((k : Int) = k + 1) := by omega
  have hk0 : (0 : Int) ≤ k + 1 := by omega
  have hkc : ((k : Int) ≤ cap) := by omega
  have hkc1 : ((k : Int) + 1 ≤ cap) := by omega
  obtain ⟨A, hA, ha⟩ : ∃ A : Addr, (if cap = k + 1 then (some ⟨g, 0, none⟩ : Option Addr) else some ⟨g, (k + 1) * 5, none⟩) = some A ∧ (A = ⟨g, (k + 1) * 5, none⟩ ∨ n = k + 1) := by
    by_cases e : cap = k + 1
    · exact ⟨_, if_pos e, .inr (by omega)⟩
    · exact ⟨_, if_neg e, .inl rfl⟩
  obtain ⟨W1, o1, hg1, hr1, hon, hrun⟩ := run_cutRow (w := w.drew) hb hr h1 hk A ha (cap - (k + 1))
  obtain ⟨W2, o2, hg2, hr2, hon2, hclr⟩ := run_clearLast hg1 hr1 (by omega : n - 1 < cap) (n - (n - 1)) (cap - (n - 1)) (by omega)
  have HG := Lib.hid (⟨o2, hg2, hr2, ((Only.refl _ w).drew.trans hon (fun _ _ e => e)).trans hon2 (fun _ _ e => e)⟩ : ∃ o', W2.heap[g]? = some o' ∧ IsRow 77 5 (n - 1) cap (xs.take (k * 5) ++ xs.drop ((k + 1) * 5)) o' ∧ Only (fun b => b = g) w W2)
  have HR := Lib.hid hrun
  clear hg1 hr1 hon hg2 hr2 hon2 ha h1 hr hb hrun
  go_enter Try.func41, Try.ntmps41
  go_wp2_with fail
  go_region_law (refine step_append_eq rfl (.tmp 22) (.tmp 25) 48 rfl (by simp [Act.eval, Act.put]) (by simp [Act.eval, Act.put]) HR.out ?_)
  go_wp2
  go_ret
  exact ⟨rfl, HG.out⟩

/-- The letters lie elsewhere, or are others. -/
theorem Rep.mailRow {w w1 : World} {L : Lay} {N : Net} (h : Rep w L N) (ho : Only (fun b => 0 < L.mcap ∧ b = L.at_ .mail) w w1) {l : List Mail} {g cap : Nat} {o1 : Obj} (hg1 : w1.heap[g]? = some o1) (hr : IsRow 77 5 l.length cap (l.flatMap Mail.cells) o1)
    (hc : 0 < cap) (hgo : (0 < L.mcap ∧ g = L.at_ .mail) ∨ w.heap.size ≤ g) :
    Sents w L N (w1.setCell ⟨L.at_ .net, 1, none⟩ (.slice (some ⟨g, 0, none⟩) l.length cap)) { N with mail := l } := by
  have hr2 := h.setMail ho hg1 hr hc hgo
  refine ⟨_, ⟨hr2, ?_, Lay.put_other L g (t := .mail) (x := .net) (by simp), Lay.put_other L g (t := .mail) (x := .sites) (by simp), fun b hb => ?_, fun b hb => ?_⟩, fun t e => Lay.put_other L g e, rfl, rfl, rfl⟩
  · refine (ho.mono fun b _ hb => ?_).setCell _ _ (.inl ⟨.net, trivial, rfl⟩)
    exact ⟨.mail, hb.1, hb.2.symm⟩
  · obtain ⟨t, ht, rfl⟩ := hb
    by_cases e : t = .mail
    · subst e
      have e1 : ({ L.put .mail g with mcap := cap } : Lay).at_ .mail = g := Lay.put_same L .mail g
      rw [e1]
      rcases hgo with ⟨h1, h2⟩ | h1
      · exact .inl ⟨.mail, h1, h2.symm⟩
      · exact .inr h1
    · have e1 : ({ L.put .mail g with mcap := cap } : Lay).at_ t = L.at_ t := Lay.put_other L g e
      rw [e1]
      exact .inl ⟨t, by cases t <;> first | exact absurd rfl e | exact ht, rfl⟩
  · obtain ⟨g', i, tx, d, hd, rfl⟩ := hb
    exact .inl ⟨g', i, tx, d, hd, rfl⟩

theorem letter_any {w : World} {L : Lay} {N : Net} (h : Rep w L N) (hok : N.Ok) (k : Int) :
    Calls Try.prog 40 #[netPtr L, .int .i64 k] w fun e w' => e = .returned (.int .i64 (if N.isLetter k = true then 0 else 3)) ∧ w = w' := by
  have h0 := hok.one
  have h8 := hok.eight
  have hm8 := hok.mail
  have c1 := h.net1
  have h1 : ((N.sites.length : Int) == 0) = false := by simp; intro e; rw [e] at h0; simp at h0
  have hs := fun w' (h : Rep w' L N) => sites_any h h8
  obtain ⟨ml, hml⟩ : ∃ ml, mailV L N = ml := ⟨_, rfl⟩
  have hmlen : ∃ a n c, ml = .slice a n c ∧ n = N.mail.length := by
    rw [← hml]; unfold mailV; split
    · rename_i e; exact ⟨_, _, _, rfl, by have := h.mlen; omega⟩
    · exact ⟨_, _, _, rfl, rfl⟩
  obtain ⟨sa, sn, sc, rfl, hsn⟩ := hmlen
  rw [hml] at c1
  have h2 : N.isLetter k = (decide ((0 : Int) ≤ k) && decide (k ≤ sn - 1)) := by unfold Net.isLetter; rw [← hsn]; congr 1; simp; omega
  obtain ⟨r, hr⟩ : ∃ r : Int, r = if N.isLetter k = true then 0 else 3 := ⟨_, rfl⟩
  rw [← hr]
  rw [h2] at hr
  have HR := Lib.hid hr
  unfold netPtr
  clear hr
  generalize hl : N.sites.length = n at *
  clear hl hml h2
  have hsn8 : sn ≤ 1024 := by omega
  clear hsn hm8
  go_enter Try.func40, Try.ntmps40
  go_wp2_with fail
  refine (hs _ h).mono ?_
  rintro e w' ⟨rfl, rfl⟩
  go_wp2_with fail
  refine (within_any _ _ _ _).mono ?_
  rintro e w' ⟨rfl, rfl⟩
  clear hs
  cases hb : (decide ((0 : Int) ≤ k) && decide (k ≤ sn - 1)) with
  | true =>
    have HB := Lib.hid hb
    clear hb
    go_wp2
    all_goals (go_ret; exact ⟨by rw [HR.out, HB.out]; rfl, rfl⟩)
  | false =>
    have HB := Lib.hid hb
    clear hb
    go_wp2
    all_goals (go_ret; exact ⟨by rw [HR.out, HB.out]; rfl, rfl⟩)
end Go.Proofs.Ytfmfgckfeojfcaa
