/- Walks of package pact: a refusal, an answer, an agreement. -/
import Derived.Test.YtfmfgckfeojfcaaStepG
set_option linter.unusedSimpArgs false
set_option linter.unusedVariables false
namespace Go.Proofs.Ytfmfgckfeojfcaa
open Go.RowKit Go.Maps Go.ChangeMaps

theorem refused1_any (x : Int) (W : World) (bm : Nat) (m : Mail) (hb : BoxM W bm m) :
    Calls Try.prog 69 #[.int .i64 x, .pointer (some ⟨bm, 0, none⟩)] W fun e w' => e = .returned (.bool (decide (x = m.src))) ∧ W = w' := by
  obtain ⟨c0, _⟩ := hb.cells
  clear hb
  go_enter Try.func69, Try.ntmps69
  go_wp2
  go_ret
  exact ⟨by simp only [Array.getD]; rfl, rfl⟩
theorem call_refused1 (args : Array Value) (w : World) : (callFunc 69 args).run Try.prog w = .ok (.enter 69 args) w := by kernel_rfl
theorem call_nobody (args : Array Value) (w : World) : (callFunc 35 args).run Try.prog w = .ok (.enter 35 args) w := by kernel_rfl

theorem PartsAt.alloc {w : World} {p : Nat × Nat} {ps : List Move} (h : PartsAt w p ps) (o : Obj) : PartsAt (w.alloc o) p ps := by
  obtain ⟨o1, ho, hr⟩ := h
  exact ⟨o1, (alloc_other w o (lt_of ho)).trans ho, hr⟩
theorem PartsAt.drew {w : World} {p : Nat × Nat} {ps : List Move} (h : PartsAt w p ps) : PartsAt w.drew p ps := h
theorem PartsAt.block {w : World} {p : Nat × Nat} {ps : List Move} (h : PartsAt w p ps) {i : Nat} (hi : p.1 ≠ i) (o : Obj) : PartsAt (setBlock w i o) p ps := by
  obtain ⟨o1, ho, hr⟩ := h
  exact ⟨o1, (heap_setBlock_ne w o hi).trans ho, hr⟩
theorem Net.Ok.dealOk {N : Net} (h : N.Ok) {i : Nat} {s : Site} (hs : N.sites[i]? = some s) {g : Bool} {k : Int} {d : Deal} (hd : AL.get? k (s.deals g) = some d) : d.Ok N.sites.length := (h.at hs).dealV g _ (AL.mem_of_get? hd)
theorem Deal.Ok.doneLen {n : Nat} {d : Deal} (h : d.Ok n) (hn : n ≤ 8) : d.done.length ≤ 1000 := by
  have := rising_len (lo := 0) (hi := 8) h.doneR (fun p hp => by
    have := h.done p hp
    unfold Deal.has at this
    obtain ⟨q, hq, e⟩ := List.any_eq_true.1 this
    have := h.sites q hq
    simp at e
    omega) (by omega)
  omega

theorem del_put {α : Type} (k : Int) (v : α) (m : List (Int × α)) : AL.del k (AL.put k v m) = AL.del k m := by
  unfold AL.put
  have h0 : AL.del k (AL.del k m) = AL.del k m := by
    unfold AL.del; rw [List.filter_filter]; simp
  have gen : ∀ l : List (Int × α), AL.del k (AL.ins k v l) = AL.del k l := by
    intro l
    induction l with
    | nil => simp [AL.ins, AL.del]
    | cons y r ih =>
      unfold AL.ins
      split
      · simp [AL.del]
      · show (y :: AL.ins k v r).filter _ = (y :: r).filter _
        rw [List.filter_cons, List.filter_cons]
        unfold AL.del at ih
        rw [ih]
  rw [gen, h0]
theorem setSite_self {N : Net} {i : Nat} {s : Site} (hs : N.sites[i]? = some s) : N.setSite i s = N := by
  have : N.sites.set i s = N.sites := by
    refine List.ext_getElem? fun j => ?_
    rw [List.getElem?_set]
    split
    · rename_i e; subst e; rw [if_pos (siteLt hs), hs]
    · rfl
  unfold Net.setSite
  rw [this]
theorem mut_del {L : Lay} {N : Net} {i : Nat} {s : Site} (hs : N.sites[i]? = some s) (g : Bool) (k : Int) {b : Nat} (hb : Mut L (N.setSite i (s.withDeals g (AL.del k (s.deals g)))) b) : Mut L N b := by
  obtain ⟨t, ht, e⟩ := hb
  refine ⟨t, ?_, e⟩
  cases t <;> simp only [Live, setSite_length] at ht ⊢ <;> first | exact ht | skip
  rename_i g' j x
  rw [setSite_deal hs] at ht
  split at ht
  · rename_i e; subst e
    rw [deal_at hs]
    rw [withDeals_deals] at ht
    split at ht
    · rename_i e; subst e
      by_cases e : x = k
      · subst e; rw [AL.get?_del_same] at ht; cases ht
      · rw [AL.get?_del_other e] at ht; exact ht
    · exact ht
  · exact ht
theorem mut_put {L : Lay} {N : Net} {i : Nat} {s : Site} (hs : N.sites[i]? = some s) (g : Bool) (k : Int) {d d' : Deal} (hd : AL.get? k (s.deals g) = some d) (hn : (AL.keys (s.deals g)).Nodup) {b : Nat} (hb : Mut L (N.setSite i (s.withDeals g (AL.put k d' (s.deals g)))) b) : Mut L N b := by
  obtain ⟨t, ht, e⟩ := hb
  refine ⟨t, ?_, e⟩
  cases t <;> simp only [Live, setSite_length] at ht ⊢ <;> first | exact ht | skip
  rename_i g' j x
  rw [setSite_deal hs] at ht
  split at ht
  · rename_i e; subst e
    rw [deal_at hs]
    rw [withDeals_deals] at ht
    split at ht
    · rename_i e; subst e
      by_cases e : x = k
      · subst e; rw [hd]; rfl
      · rw [AL.get?_put_other e _ hn] at ht; exact ht
    · exact ht
  · exact ht

set_option maxRecDepth 20000 in
set_option maxHeartbeats 1000000 in
theorem refused_any {w : World} {L : Lay} {N : Net} (h : Rep w L N) (hok : N.Ok) {i : Nat} {s : Site} (hs : N.sites[i]? = some s) {m : Mail} (hm : m.Ok N.sites.length N.count) :
    Calls Try.prog 57 #[netPtr L, sitePtr L i, m.val] w fun e w' => e = .returned (.tuple #[]) ∧ Moves w L N w' (N.refused i s m) := by
  have hmail := hok.mail
  have hsok := hok.at hs
  have htx := hm.txI hok.count.2
  unfold netPtr sitePtr Mail.val
  obtain ⟨w1, hw1⟩ : ∃ w1, w1 = w.alloc (.cells #[.int .i64 m.src, .int .i64 m.dst, .int .i64 m.kind, .int .i64 m.tx, .int .i64 m.n] 77) := ⟨_, rfl⟩
  have hbox : BoxM w1 w.heap.size m := hw1 ▸ BoxM.new w m
  have hbm : ¬ Mut L N w.heap.size := h.new_mut (Nat.le_refl _)
  have hmv : Moved w L N w1 L N := hw1 ▸ (Moved.refl h).alloc _
  have hbc := hbox.cells
  have c6 := hmv.rep.site6 hs
  have hslt := hmv.rep.sitesLt
  obtain ⟨a, n, c, mb, hfound, o, ho, hlook⟩ := hmv.rep.lookDeal hs false htx
  have hl := looks ho hlook
  obtain ⟨o3, o3', ho3, hrun3, hto3⟩ := hmv.dropDeal hs false htx (rising_nodup (hsok.dealR false))
  have ht3 := fun ty => turns ho3 (fun W => hrun3 W ty)
  have HW1 := Lib.hid hw1
  have HBM := Lib.hid hbm
  have HT3 := Lib.hid hto3
  cases hp : AL.has m.tx (Site.deals false s) with
  | false =>
    have hfin : ∀ A, Moves w L N (w1.alloc A).drew (N.refused i s m) := fun A => by
      unfold Net.refused; rw [has_get_none (m := s.opened) hp]
      exact (hmv.alloc _).drew.moves
    have HF := Lib.hid hfin
    rw [hp] at hl
    clear hlook hw1 h ho ho3 hrun3 hto3 hbm hp hfin hfound
    go_enter Try.func57, Try.ntmps57
    go_wp2
    rw [← HW1.out]
    generalize w.heap.size = bm at hbox hbc HBM ⊢
    clear HW1
    go_region
    go_wp2
    go_end0
    exact ⟨rfl, HF.out _⟩
  | true =>
    obtain ⟨d, hd⟩ := has_get hp
    obtain ⟨rfl, rfl, rfl, rfl⟩ := hfound d hd
    have hdN := deal_of hs hd
    have hdok := hok.dealOk hs hd
    have hpt := hmv.rep.parts _ _ _ _ hdN
    have hpm : ¬ Mut L N (L.pb false i m.tx).1 := fun ⟨t, ht, e⟩ => h.apart _ _ _ _ t hdN ht e
    rw [hp] at hl
    have HD := Lib.hid hd
    have HPt := Lib.hid hpt
    have HPm := Lib.hid hpm
    clear hlook hw1 h ho ho3 hrun3 hto3 hbm hp hfound hd hdN hpt hpm
    go_enter Try.func57, Try.ntmps57
    go_wp2
    rw [← HW1.out]
    generalize w.heap.size = bm at hbox hbc HBM ⊢
    clear HW1
    go_region
    go_wp2
    go_region
    obtain ⟨w3, hw3, hmv3, hbox3, hpt3, hbd3⟩ : ∃ w3, w3 = setBlock (w1.alloc (.cells #[.slice (some ⟨(L.pb false i m.tx).1, 0, none⟩) d.parts.length (L.pb false i m.tx).2, .map (some (L.at_ (.done false i m.tx)))] 73)).drew.drew (L.at_ (.deals false i)) o3' ∧
        Moved w L N w3 L (N.setSite i (s.withDeals false (AL.del m.tx (s.deals false)))) ∧ BoxM w3 bm m ∧ PartsAt w3 (L.pb false i m.tx) d.parts ∧ BoxD w3 w1.heap.size (some ⟨(L.pb false i m.tx).1, 0, none⟩) d.parts.length (L.pb false i m.tx).2 (some (L.at_ (.done false i m.tx))) :=
      ⟨_, rfl, HT3.out _ (hmv.alloc _).drew.drew, ((hbox.alloc _).drew.drew).block (fun e => HBM.out ⟨.deals false i, by simp [Live]; exact siteLt hs, e.symm⟩) o3',
        ((HPt.out.alloc _).drew.drew).block (fun e => HPm.out ⟨.deals false i, by simp [Live]; exact siteLt hs, e.symm⟩) o3', (BoxD.of _ _ _ _).drew.block (fun e => by have := hmv.rep.mut_lt ⟨.deals false i, by simp [Live]; exact siteLt hs, rfl⟩; omega) o3'⟩
    rw [← hw3]
    have hbc3 := hbox3.cells
    have hbd3c := hbd3.cells
    have hpm3 : ¬ Mut L (N.setSite i (s.withDeals false (AL.del m.tx (s.deals false)))) (L.pb false i m.tx).1 := fun hm => HPm.out (mut_del hs false _ hm)
    have hbm3 : ¬ Mut L (N.setSite i (s.withDeals false (AL.del m.tx (s.deals false)))) bm := fun hm => HBM.out (mut_del hs false _ hm)
    have hcall := tell_any hmv3.rep hmail m.dst 5 m.tx (pb := (L.pb false i m.tx).1) (cap := (L.pb false i m.tx).2) hpt3 hpm3 (by have := hdok.len; omega) 69 #[.pointer (some ⟨bm, 0, none⟩)] (fun x => decide (x = m.src)) call_refused1
      (fun W L' N' hS x => refused1_any x W bm m (hbox3.only hS.moved.only hbm3))
    have HC := Lib.hid hcall
    have HM3 := Lib.hid hmv3
    clear hw3 hl ht3 c6 hslt hbc hbox hmv hmv3 hcall hpt3 hbox3 hbd3 hpm3 hbm3
    go_wp2_with fail
    refine HC.out.mono ?_
    rintro e w' ⟨rfl, hS⟩
    have hfin : Moves w L N w' (N.refused i s m) := by
      unfold Net.refused; rw [show AL.get? m.tx s.opened = some d from HD.out]
      exact Moves.after HM3.out hS
    have HF := Lib.hid hfin
    clear hfin hS
    go_wp2
    go_end0
    exact ⟨rfl, HF.out⟩
set_option maxRecDepth 20000 in
set_option maxHeartbeats 1000000 in
theorem answered_any {w : World} {L : Lay} {N : Net} (h : Rep w L N) (hok : N.Ok) {i : Nat} {s : Site} (hs : N.sites[i]? = some s) {m : Mail} (hm : m.Ok N.sites.length N.count) :
    Calls Try.prog 60 #[netPtr L, sitePtr L i, m.val] w fun e w' => e = .returned (.tuple #[]) ∧ Moves w L N w' (N.answered i s m) := by
  have hsok := hok.at hs
  have htx := hm.txI hok.count.2
  have hsrc := hm.srcI hok.eight
  unfold netPtr sitePtr Mail.val
  obtain ⟨w1, hw1⟩ : ∃ w1, w1 = w.alloc (.cells #[.int .i64 m.src, .int .i64 m.dst, .int .i64 m.kind, .int .i64 m.tx, .int .i64 m.n] 77) := ⟨_, rfl⟩
  have hbox : BoxM w1 w.heap.size m := hw1 ▸ BoxM.new w m
  have hbm : ¬ Mut L N w.heap.size := h.new_mut (Nat.le_refl _)
  have hmv : Moved w L N w1 L N := hw1 ▸ (Moved.refl h).alloc _
  have hbc := hbox.cells
  have c5 := hmv.rep.site5 hs
  have hslt := hmv.rep.sitesLt
  obtain ⟨a, n, c, mb, hfound, o, ho, hlook⟩ := hmv.rep.lookDeal hs true htx
  have hl := looks ho hlook
  have HW1 := Lib.hid hw1
  have HBM := Lib.hid hbm
  cases hp : AL.has m.tx (Site.deals true s) with
  | false =>
    have hfin : ∀ A, Moves w L N (w1.alloc A).drew (N.answered i s m) := fun A => by
      unfold Net.answered; rw [has_get_none (m := s.granted) hp]
      exact (hmv.alloc _).drew.moves
    have HF := Lib.hid hfin
    rw [hp] at hl
    clear hlook hw1 h ho hbm hp hfin hfound
    go_enter Try.func60, Try.ntmps60
    go_wp2
    rw [← HW1.out]
    generalize w.heap.size = bm at hbox hbc HBM ⊢
    clear HW1
    go_region
    go_wp2
    exact bodyPost_ret (results_none rfl _ _ _) rfl ⟨rfl, HF.out _⟩
  | true =>
    obtain ⟨d, hd⟩ := has_get hp
    obtain ⟨rfl, rfl, rfl, rfl⟩ := hfound d hd
    have hdN := deal_of hs hd
    have hdok := hok.dealOk hs hd
    have hpt := hmv.rep.parts _ _ _ _ hdN
    rw [hp] at hl
    have HD := Lib.hid hd
    have HDN := Lib.hid hdN
    have HPt := Lib.hid hpt
    clear hlook hw1 h ho hbm hp hfound hd hdN hpt
    go_enter Try.func60, Try.ntmps60
    go_wp2
    rw [← HW1.out]
    generalize w.heap.size = bm at hbox hbc HBM ⊢
    clear HW1
    go_region
    go_wp2_with fail
    refine (has_any ((HPt.out.alloc _).drew) (by have := hdok.len; omega) _ m.src).mono ?_
    rintro e w2 ⟨rfl, hb2⟩
    have hmv2 := (hmv.alloc _).drew.below hb2
    have hbox2 := (hbox.alloc _).drew.below hb2
    have hbd2 := (BoxD.of _ _ _ _).below hb2
    have hbdm2 : ¬ Mut L N w1.heap.size := hmv.rep.new_mut (Nat.le_refl _)
    generalize w1.heap.size = bd at hbd2 hbdm2 ⊢
    have hbc2 := hbox2.cells
    have hbdc2 := hbd2.cells
    have c52 := hmv2.rep.site5 hs
    have hslt2 := hmv2.rep.sitesLt
    have hn := rising_nodup (hsok.dealR true)
    have hlenp := hdok.len
    have hdn := hdok.doneLen hok.eight
    cases hhas : d.has m.src with
    | false =>
      have hear : d.hear m.src = d := by unfold Deal.hear; rw [hhas]; rfl
      obtain ⟨o4, ho4, hM4⟩ := hmv2.rep.doneAt HDN.out
      have hlen4 := fun ty => hM4.len (t := 61) Try.underlying61 w2 ho4 ty
      have hsl : (setV d.done).length = d.done.length := by simp [setV]
      rw [hsl] at hlen4
      obtain ⟨o5, o5', ho5, hrun5, hto5⟩ := hmv2.dropDeal hs true htx hn
      have ht5 := fun ty => turns ho5 (fun W => hrun5 W ty)
      cases hfull : d.full with
      | true =>
        have hlb : ((d.done.length : Int) == d.parts.length) = true := by unfold Deal.full at hfull; simp at hfull ⊢; omega
        have hfin := (hto5 w2.drew hmv2.drew).moves
        have hfin2 : Moves w L N (setBlock w2.drew (L.at_ (.deals true i)) o5') (N.answered i s m) := by
          unfold Net.answered; rw [show AL.get? m.tx s.granted = some d from HD.out]; simp only [hear, hfull, if_true]; exact hfin
        have HF := Lib.hid hfin2
        clear hfin hfin2 hfull hear hhas hsl hM4 ho4 hto5 hrun5 ho5 hl c5 hslt hbc hbox hmv hmv2 hbox2 hbd2 hb2
        go_wp2
        go_region
        go_wp2
        go_end0
        exact ⟨rfl, HF.out⟩
      | false =>
        have hlb : ((d.done.length : Int) == d.parts.length) = false := by unfold Deal.full at hfull; simp at hfull ⊢; omega
        have hsame : N.setSite i (s.withDeals true (AL.put m.tx d (s.deals true))) = N := by
          rw [put_self (hsok.dealR true) HD.out]
          exact setSite_self hs
        have hfin2 : Moves w L N w2 (N.answered i s m) := by
          unfold Net.answered; rw [show AL.get? m.tx s.granted = some d from HD.out]; simp only [hear, hfull, Bool.false_eq_true, if_false]
          have : N.setSite i { s with granted := AL.put m.tx d s.granted } = N := hsame
          rw [this]; exact hmv2.moves
        have HF := Lib.hid hfin2
        clear hfin2 hfull hear hhas hsl hM4 ho4 hto5 hrun5 ho5 ht5 hl c5 hslt hbc hbox hmv hmv2 hbox2 hbd2 hb2 hsame
        go_wp2
        go_end0
        exact ⟨rfl, HF.out⟩
    | true =>
      have hear : d.hear m.src = { d with done := AL.put m.src () d.done } := by unfold Deal.hear; rw [hhas]; rfl
      obtain ⟨o3, o3', ho3, hrun3, hM3, hto3⟩ := hmv2.putDone hs true HD.out hn hsrc hdn
      have ht3 := turns ho3 hrun3
      obtain ⟨w3, hw3, hmv3, hbox3, hbd3⟩ : ∃ w3, w3 = setBlock w2 (L.at_ (.done true i m.tx)) o3' ∧ Moved w L N w3 L (N.setSite i (s.withDeals true (AL.put m.tx { d with done := AL.put m.src () d.done } (s.deals true)))) ∧ BoxM w3 bm m ∧
          BoxD w3 bd (some ⟨(L.pb true i m.tx).1, 0, none⟩) d.parts.length (L.pb true i m.tx).2 (some (L.at_ (.done true i m.tx))) :=
        ⟨_, rfl, hto3 _ hmv2, hbox2.block (fun e => HBM.out ⟨.done true i m.tx, by simp [Live, HDN.out], e.symm⟩) o3', hbd2.block (fun e => hbdm2 ⟨.done true i m.tx, by simp [Live, HDN.out], e.symm⟩) o3'⟩
      have ho3b : w3.heap[L.at_ (.done true i m.tx)]? = some o3' := by rw [hw3]; exact heap_setBlock_eq ho3 _
      have hs3 := setSite_at hs (s.withDeals true (AL.put m.tx { d with done := AL.put m.src () d.done } (s.deals true)))
      have hbc3 := hbox3.cells
      have hbdc3 := hbd3.cells
      have d5 := hmv3.rep.site5 hs3
      have hslt3 := hmv3.rep.sitesLt
      have hlen4 := fun ty => hM3.len (t := 61) Try.underlying61 w3 ho3b ty
      have hsl : (setV (AL.put m.src () d.done)).length = (AL.put m.src () d.done).length := by simp [setV]
      rw [hsl] at hlen4
      have hdeals : (s.withDeals true (AL.put m.tx { d with done := AL.put m.src () d.done } (s.deals true))).deals true = AL.put m.tx { d with done := AL.put m.src () d.done } (s.deals true) := rfl
      obtain ⟨o5, o5', ho5, hrun5, hto5⟩ := hmv3.dropDeal hs3 true htx (by rw [hdeals]; exact AL.nodup_put hn)
      have ht5 := fun ty => turns ho5 (fun W => hrun5 W ty)
      have hdlen : (AL.put m.src () d.done).length ≤ 1001 := by have := AL.length_put_le m.src () (rising_nodup hdok.doneR); omega
      have hfull0 : ({ d with done := AL.put m.src () d.done } : Deal).full = decide ((AL.put m.src () d.done).length = d.parts.length) := rfl
      have hfin1 : ({ d with done := AL.put m.src () d.done } : Deal).full = false → Moves w L N w3 (N.answered i s m) := fun hf => by
        unfold Net.answered; rw [show AL.get? m.tx s.granted = some d from HD.out]; simp only [hear, hf, Bool.false_eq_true, if_false]
        exact hmv3.moves
      have hfin2 : ({ d with done := AL.put m.src () d.done } : Deal).full = true → Moves w L N (setBlock w3.drew (L.at_ (.deals true i)) o5') (N.answered i s m) := fun hf => by
        unfold Net.answered; rw [show AL.get? m.tx s.granted = some d from HD.out]; simp only [hear, hf, if_true]
        have h1 := (hto5 w3.drew hmv3.drew).moves
        rw [setSite_twice, hdeals] at h1
        have h2 : AL.del m.tx (AL.put m.tx { d with done := AL.put m.src () d.done } (s.deals true)) = AL.del m.tx (s.deals true) := del_put _ _ _
        rw [h2] at h1
        exact h1
      generalize (AL.put m.src () d.done).length = dl at hlen4 hdlen hfull0
      have HF1 := Lib.hid hfin1
      have HF2 := Lib.hid hfin2
      have HF0 := Lib.hid hfull0
      subst hw3
      clear hfin1 hfin2 hmv3 hbox3 hbd3 hto3 hrun3 ho3 ho3b hl c5 hslt hbc hbox hmv hmv2 hbox2 hbd2 hb2 c52 hslt2 hM3 ho5 hto5 hrun5 hs3 hear hsl hdeals hfull0
      by_cases hfl : dl = d.parts.length
      · have hlb : ((dl : Int) == d.parts.length) = true := by simp; omega
        have HFl : Hid (({ d with done := AL.put m.src () d.done } : Deal).full = true) := by show _ = true; rw [HF0.out]; simpa using hfl
        clear hfl
        go_wp2
        go_region
        go_wp2
        go_end0
        exact ⟨rfl, HF2.out HFl.out⟩
      · have hlb : ((dl : Int) == d.parts.length) = false := by simp; omega
        have HFl : Hid (({ d with done := AL.put m.src () d.done } : Deal).full = false) := by show _ = false; rw [HF0.out]; simpa using hfl
        clear hfl
        go_wp2
        go_end0
        exact ⟨rfl, HF1.out HFl.out⟩
end Go.Proofs.Ytfmfgckfeojfcaa
