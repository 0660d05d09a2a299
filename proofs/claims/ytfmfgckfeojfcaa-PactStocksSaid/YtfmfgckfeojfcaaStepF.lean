/- Walks of package pact: what the coordinator does with an answer. -/
import Derived.Test.YtfmfgckfeojfcaaStepE
set_option linter.unusedSimpArgs false
set_option linter.unusedVariables false
namespace Go.Proofs.Ytfmfgckfeojfcaa
open Go.RowKit Go.Maps Go.ChangeMaps

theorem zero_deal (w : World) : (zeroValue 73).run Try.prog w = .ok (.agg #[.slice none 0 0, .map none]) w := by kernel_rfl
theorem get_dealsV (L : Lay) (g : Bool) (i : Nat) (k : Int) (m : List (Int × Deal)) : AL.get? k (dealsV L g i m) = (AL.get? k m).map (dealVal L g i k) := AL.get?_map (fun k d => dealVal L g i k d) k m
theorem has_dealsV (L : Lay) (g : Bool) (i : Nat) (k : Int) (m : List (Int × Deal)) : AL.has k (dealsV L g i m) = AL.has k m := AL.has_map (fun k d => dealVal L g i k d) k m
theorem del_dealsV (L : Lay) (g : Bool) (i : Nat) (k : Int) (m : List (Int × Deal)) : AL.del k (dealsV L g i m) = dealsV L g i (AL.del k m) := AL.del_map (fun k d => dealVal L g i k d) k m
theorem has_get {α : Type} {k : Int} {m : List (Int × α)} (h : AL.has k m = true) : ∃ v, AL.get? k m = some v := by rw [AL.has_eq_isSome] at h; exact Option.isSome_iff_exists.1 h
theorem has_get_none {α : Type} {k : Int} {m : List (Int × α)} (h : AL.has k m = false) : AL.get? k m = none := by rw [AL.has_eq_isSome] at h; simpa using h
theorem has_of_get {α : Type} {k : Int} {m : List (Int × α)} {v : α} (h : AL.get? k m = some v) : AL.has k m = true := by rw [AL.has_eq_isSome, h]; rfl

/-- A block that holds a deal's two fields. -/
def BoxD (w : World) (b : Nat) (a : Option Addr) (n c : Nat) (mb : Option Nat) : Prop := w.heap[b]? = some (.cells #[.slice a n c, .map mb] 73 (0, 0))
theorem BoxD.cells {w : World} {b : Nat} {a : Option Addr} {n c : Nat} {mb : Option Nat} (h : BoxD w b a n c mb) : w.cell? ⟨b, 0, none⟩ = some (.slice a n c) ∧ w.cell? ⟨b, 1, none⟩ = some (.map mb) ∧ b < w.heap.size :=
  ⟨cell_of h rfl, cell_of h rfl, lt_of h⟩

section
variable {w W : World} {L L1 : Lay} {N N1 : Net} {i : Nat} {s : Site}
theorem Rep.lookDeal (h : Rep w L N) (hs : N.sites[i]? = some s) (g : Bool) {k : Int} (hk : i64 k) : ∃ a n c mb,
    (∀ d, AL.get? k (s.deals g) = some d → a = some ⟨(L.pb g i k).1, 0, none⟩ ∧ n = d.parts.length ∧ c = (L.pb g i k).2 ∧ mb = some (L.at_ (.done g i k))) ∧ ∃ o, w.heap[L.at_ (.deals g i)]? = some o ∧ ∀ W : World, W.heap[L.at_ (.deals g i)]? = some o →
    (Instr.lookup 62 (.map (some (L.at_ (.deals g i)))) (.int .i64 k) true).run Try.prog W = .ok (.tuple #[.agg #[.slice a n c, .map mb], .bool (AL.has k (s.deals g))]) W := by
  obtain ⟨o, ho, hM⟩ := h.dealsAt hs g
  have hlk := fun (W : World) (hW : W.heap[L.at_ (.deals g i)]? = some o) => hM.look keyI encI_inj Try.underlying62 zero_deal (okI_of hk) true W hW
  cases hg : AL.get? k (s.deals g) with
  | none =>
    refine ⟨none, 0, 0, none, (fun d hd => by cases hd), o, ho, fun W hW => ?_⟩
    rw [hlk W hW, get_dealsV, has_dealsV, hg]; rfl
  | some d =>
    refine ⟨_, _, _, _, (fun d' hd => by cases hd; exact ⟨rfl, rfl, rfl, rfl⟩), o, ho, fun W hW => ?_⟩
    rw [hlk W hW, get_dealsV, has_dealsV, hg]; rfl

/-- 'delete(s.open, k)' | 'delete(s.granted, k)'. -/
theorem Moved.dropDeal (h : Moved w L N W L1 N1) (hs : N1.sites[i]? = some s) (g : Bool) {k : Int} (hk : i64 k) (hn : (AL.keys (s.deals g)).Nodup) : ∃ o o', W.heap[L1.at_ (.deals g i)]? = some o ∧
    (∀ (W1 : World) (ty : TypeId), W1.heap[L1.at_ (.deals g i)]? = some o → (Builtin.delete_ #[62, 3] ty #[.map (some (L1.at_ (.deals g i))), .int .i64 k]).run Try.prog W1 = .ok (.tuple #[]) (setBlock W1 (L1.at_ (.deals g i)) o')) ∧
    ∀ W1, Moved w L N W1 L1 N1 → Moved w L N (setBlock W1 (L1.at_ (.deals g i)) o') L1 (N1.setSite i (s.withDeals g (AL.del k (s.deals g)))) := by
  obtain ⟨o, ho, hM⟩ := h.rep.dealsAt hs g
  obtain ⟨o', hM', hrun⟩ := hM.drop (b := L1.at_ (.deals g i)) keyI encI_inj Try.underlying62 (okI_of hk)
  rw [del_dealsV] at hM'
  have hdl : ∀ g' j x d', (N1.setSite i (s.withDeals g (AL.del k (s.deals g)))).deal g' j x = some d' → N1.deal g' j x = some d' := fun g' j x d' hd' => by
    rw [setSite_deal hs] at hd'
    split at hd'
    · rename_i e; subst e
      rw [withDeals_deals] at hd'
      split at hd'
      · rename_i e; subst e
        rw [deal_at hs]
        by_cases e : x = k
        · subst e; rw [AL.get?_del_same] at hd'; cases hd'
        · rw [AL.get?_del_other e] at hd'; exact hd'
      · rw [deal_at hs]; exact hd'
    · exact hd'
  refine ⟨o, o', ho, hrun, fun W1 h1 => h1.turn (t := .deals g i) (by simp [Live]; exact siteLt hs) (h1.rep.delDeal hs g k hn hM') (fun t ht => ?_) (fun b hb => ?_)⟩
  · cases t <;> simp only [Live, setSite_length] at ht ⊢ <;> first | exact ht | skip
    obtain ⟨d', hd'⟩ := Option.isSome_iff_exists.1 ht
    rw [hdl _ _ _ _ hd']; rfl
  · obtain ⟨g', j, x, d', hd', e⟩ := hb
    exact ⟨g', j, x, d', hdl _ _ _ _ hd', e⟩

/-- 'd.done[f] = true'. -/
theorem Moved.putDone (h : Moved w L N W L1 N1) (hs : N1.sites[i]? = some s) (g : Bool) {k : Int} {d : Deal} (hd : AL.get? k (s.deals g) = some d) (hn : (AL.keys (s.deals g)).Nodup) {f : Int} (hf : i64 f) (hlen : d.done.length ≤ 1000) : ∃ o o', W.heap[L1.at_ (.done g i k)]? = some o ∧
    (∀ W1 : World, W1.heap[L1.at_ (.done g i k)]? = some o → (Instr.mapUpdate 61 (.map (some (L1.at_ (.done g i k)))) (.int .i64 f) (.bool true)).run Try.prog W1 = .ok () (setBlock W1 (L1.at_ (.done g i k)) o')) ∧
    MapObj okI (Value.int .i64) (setV (AL.put f () d.done)) o' ∧
    ∀ W1, Moved w L N W1 L1 N1 → Moved w L N (setBlock W1 (L1.at_ (.done g i k)) o') L1 (N1.setSite i (s.withDeals g (AL.put k { d with done := AL.put f () d.done } (s.deals g)))) := by
  have hdN := deal_of hs hd
  obtain ⟨o, ho, hM⟩ := h.rep.doneAt hdN
  obtain ⟨o', hM', hrun⟩ := hM.update (b := L1.at_ (.done g i k)) keyI encI_inj Try.underlying61 (okI_of hf) (.bool true) (by simp [setV, maxLen]; omega) (AL.put_perm f _ (setV d.done))
  rw [put_setV] at hM'
  have hdl : ∀ g' j x d', (N1.setSite i (s.withDeals g (AL.put k { d with done := AL.put f () d.done } (s.deals g)))).deal g' j x = some d' → ∃ d'', N1.deal g' j x = some d'' := fun g' j x d' hd' => by
    rw [setSite_deal hs] at hd'
    split at hd'
    · rename_i e; subst e
      rw [withDeals_deals] at hd'
      split at hd'
      · rename_i e; subst e
        by_cases e : x = k
        · subst e; exact ⟨d, hdN⟩
        · rw [AL.get?_put_other e _ hn] at hd'; exact ⟨d', by rw [deal_at hs]; exact hd'⟩
      · exact ⟨d', by rw [deal_at hs]; exact hd'⟩
    · exact ⟨d', hd'⟩
  refine ⟨o, o', ho, hrun, hM', fun W1 h1 => h1.turn (t := .done g i k) (by simp [Live, hdN]) (h1.rep.setDone hs g k hd hn hM') (fun t ht => ?_) (fun b hb => ?_)⟩
  · cases t <;> simp only [Live, setSite_length] at ht ⊢ <;> first | exact ht | skip
    obtain ⟨d', hd'⟩ := Option.isSome_iff_exists.1 ht
    obtain ⟨d'', h2⟩ := hdl _ _ _ _ hd'
    rw [h2]; rfl
  · obtain ⟨g', j, x, d', hd', e⟩ := hb
    obtain ⟨d'', h2⟩ := hdl _ _ _ _ hd'
    exact ⟨g', j, x, d'', h2, e⟩
end

theorem BoxD.of {w : World} (a : Option Addr) (n c : Nat) (mb : Option Nat) : BoxD (w.alloc (.cells #[.slice a n c, .map mb] 73)).drew w.heap.size a n c mb := alloc_same w _
theorem BoxD.below {w w' : World} {b : Nat} {a : Option Addr} {n c : Nat} {mb : Option Nat} (h : BoxD w b a n c mb) (hb : Below w.heap.size w w') : BoxD w' b a n c mb := (hb.block b (lt_of h)).trans h
theorem BoxD.drew {w : World} {b : Nat} {a : Option Addr} {n c : Nat} {mb : Option Nat} (h : BoxD w b a n c mb) : BoxD w.drew b a n c mb := h
theorem BoxD.alloc {w : World} {b : Nat} {a : Option Addr} {n c : Nat} {mb : Option Nat} (h : BoxD w b a n c mb) (o : Obj) : BoxD (w.alloc o) b a n c mb := (alloc_other w o (lt_of h)).trans h
theorem BoxD.block {w : World} {b : Nat} {a : Option Addr} {n c : Nat} {mb : Option Nat} (h : BoxD w b a n c mb) {i : Nat} (hi : b ≠ i) (o : Obj) : BoxD (setBlock w i o) b a n c mb := (heap_setBlock_ne w o hi).trans h

set_option maxRecDepth 20000 in
set_option maxHeartbeats 1000000 in
theorem remind_any {w : World} {L : Lay} {N : Net} (h : Rep w L N) (hok : N.Ok) {i : Nat} {s : Site} (hs : N.sites[i]? = some s) {m : Mail} (hm : m.Ok N.sites.length N.count) :
    Calls Try.prog 68 #[netPtr L, sitePtr L i, m.val] w fun e w' => e = .returned (.tuple #[]) ∧ Moves w L N w' (N.remind s m) := by
  have hmail := hok.mail
  have htx := hm.txI hok.count.2
  have hsrc := hm.srcI hok.eight
  unfold netPtr sitePtr Mail.val
  obtain ⟨w1, hw1⟩ : ∃ w1, w1 = w.alloc (.cells #[.int .i64 m.src, .int .i64 m.dst, .int .i64 m.kind, .int .i64 m.tx, .int .i64 m.n] 77) := ⟨_, rfl⟩
  have hbox : BoxM w1 w.heap.size m := hw1 ▸ BoxM.new w m
  have hmv : Moved w L N w1 L N := hw1 ▸ (Moved.refl h).alloc _
  have hbc := hbox.cells
  have c5 := hmv.rep.site5 hs
  have hslt := hmv.rep.sitesLt
  obtain ⟨a, n, c, mb, hfound, o, ho, hlook⟩ := hmv.rep.lookDeal hs true htx
  have hl := looks ho hlook
  have HW1 := Lib.hid hw1
  cases hnp : AL.has m.tx (Site.deals true s) with
  | false =>
    have hfin : ∀ A w', Sents (w1.alloc A).drew L N w' (N.reply m 5) → Moves w L N w' (N.remind s m) := fun A w' hS => by
      unfold Net.remind; rw [has_get_none (m := s.granted) hnp]
      exact Moves.after (hmv.alloc _).drew hS
    have HFin := Lib.hid hfin
    clear hlook hw1 h ho hfound hfin
    go_enter Try.func68, Try.ntmps68
    go_wp2
    rw [← HW1.out]
    generalize w.heap.size = bm at hbox hbc ⊢
    clear HW1
    go_region
    go_wp2_with fail
    refine (reply_any (hmv.rep.alloc _).drew hmail m 5).mono ?_
    rintro e w' ⟨rfl, hS⟩
    have HF := Lib.hid (HFin.out _ _ hS)
    clear hS
    go_wp2
    go_end0
    exact ⟨rfl, HF.out⟩
  | true =>
    obtain ⟨d, hd⟩ := has_get hnp
    obtain ⟨rfl, rfl, rfl, rfl⟩ := hfound d hd
    have hdN := deal_of hs hd
    obtain ⟨o2, ho2, hM2⟩ := hmv.rep.doneAt hdN
    have hl2 := looks ho2 (hM2.lookSet hsrc _)
    have hfin1 : AL.has m.src d.done = true → ∀ A, Moves w L N (w1.alloc A).drew (N.remind s m) := fun hh A => by
      unfold Net.remind; rw [show AL.get? m.tx s.granted = some d from hd]; simp only [hh, if_true]
      exact (hmv.alloc _).drew.moves
    have hfin2 : AL.has m.src d.done = false → ∀ A w', Sents (w1.alloc A).drew L N w' (N.reply m 4) → Moves w L N w' (N.remind s m) := fun hh A w' hS => by
      unfold Net.remind; rw [show AL.get? m.tx s.granted = some d from hd]; simp only [hh, Bool.false_eq_true, if_false]
      exact Moves.after (hmv.alloc _).drew hS
    have HF1 := Lib.hid hfin1
    have HF2 := Lib.hid hfin2
    rw [hnp] at hl
    clear hlook hw1 h ho ho2 hM2 hfound hfin1 hfin2 hnp hd hdN
    go_enter Try.func68, Try.ntmps68
    go_wp2
    rw [← HW1.out]
    generalize w.heap.size = bm at hbox hbc ⊢
    clear HW1
    go_region
    cases hnd : AL.has m.src d.done with
    | true =>
      have HD := Lib.hid hnd
      rw [hnd] at hl2
      clear hnd
      go_wp2_with fail
      go_end0
      exact ⟨rfl, HF1.out HD.out _⟩
    | false =>
      have HD := Lib.hid hnd
      rw [hnd] at hl2
      clear hnd
      go_wp2_with fail
      refine (reply_any (hmv.rep.alloc _).drew hmail m 4).mono ?_
      rintro e w' ⟨rfl, hS⟩
      have HF := Lib.hid (HF2.out HD.out _ _ hS)
      clear hS
      go_wp2
      go_end0
      exact ⟨rfl, HF.out⟩
end Go.Proofs.Ytfmfgckfeojfcaa
