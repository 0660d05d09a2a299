/- Walks of package pact: Cancel, Crash, Start, Outcome. -/
import Derived.Test.YtfmfgckfeojfcaaStepM
set_option linter.unusedSimpArgs false
set_option linter.unusedVariables false
namespace Go.Proofs.Ytfmfgckfeojfcaa
open Go.RowKit Go.Maps Go.ChangeMaps

/-- What awake answers. -/
theorem awake_cases {w : World} {L : Lay} {N : Net} (h : Rep w L N) (hok : N.Ok) (k : Int) :
    (∃ (i : Nat) (s : Site), k = (i : Int) ∧ N.sites[i]? = some s ∧ s.down = false ∧ N.awake k = (some s, 0)) ∨
    (∃ er : Int, N.awake k = (none, er) ∧ er ≠ 0 ∧ Calls Try.prog 31 #[netPtr L, .int .i64 k] w fun e w' => e = .returned (.tuple #[.pointer none, .int .i64 er]) ∧ w = w') := by
  by_cases hk : N.isSite k = true
  · obtain ⟨i, s, rfl, hs, hi⟩ := isSite_elim hk
    cases hd : s.down with
    | false => exact .inl ⟨i, s, rfl, hs, hd, by simp [Net.awake, hk, hs, hd]⟩
    | true => exact .inr ⟨7, by simp [Net.awake, hk, hs, hd], by decide, awake_down h hok.eight hs hd⟩
  · exact .inr ⟨3, by simp [Net.awake, hk], by decide, awake_bad h hok.eight hok.one k (by simpa using hk)⟩

theorem run_makeDeals (w : World) : (Instr.makeMap 62 none).run Try.prog w = .ok (.map (some w.heap.size)) (w.alloc (.map #[] 0)) := by kernel_rfl

theorem Moved.newOpen {w W : World} {L L1 : Lay} {N N1 : Net} {i : Nat} {s : Site} (h : Moved w L N W L1 N1) (hs : N1.sites[i]? = some s) {b : Nat} (hb : W.heap[b]? = some (.map #[] 0)) (hbm : ¬ Mut L1 N1 b) (hbf : ¬ Fix L1 N1 b) (hbw : w.heap.size ≤ b) :
    Moved w L N (W.setCell ⟨L1.at_ .sites, i * 7 + 6, none⟩ (.map (some b))) (L1.put (.deals false i) b) (N1.setSite i { s with opened := [] }) := by
  have hdl : ∀ g' j x d', (N1.setSite i { s with opened := [] }).deal g' j x = some d' → N1.deal g' j x = some d' := fun g' j x d' hd' => by
    rw [setSite_deal hs] at hd'
    split at hd'
    · rename_i e; subst e
      cases g'
      · simp [Site.deals, AL.get?] at hd'
      · rw [deal_at hs]; exact hd'
    · exact hd'
  refine ⟨h.rep.newOpen hs hb mapObj_empty hbm hbf, h.only.setCell _ _ (h.muts _ ⟨.sites, trivial, rfl⟩), (Lay.put_other L1 b (t := .deals false i) (x := .net) (by simp)).trans h.net, (Lay.put_other L1 b (t := .deals false i) (x := .sites) (by simp)).trans h.sites, fun b' hb' => ?_, fun b' hb' => ?_⟩
  · obtain ⟨t, ht, rfl⟩ := hb'
    by_cases e : t = .deals false i
    · subst e; rw [Lay.put_same]; exact .inr hbw
    · rw [Lay.put_other L1 b e]
      refine h.muts _ ⟨t, ?_, rfl⟩
      cases t <;> simp only [Live, setSite_length] at ht ⊢ <;> first | exact ht | skip
      obtain ⟨d', hd'⟩ := Option.isSome_iff_exists.1 ht
      rw [hdl _ _ _ _ hd']; rfl
  · obtain ⟨g', j, x, d', hd', rfl⟩ := hb'
    exact h.fixs _ ⟨g', j, x, d', hdl _ _ _ _ hd', rfl⟩

set_option maxRecDepth 20000 in
set_option maxHeartbeats 1000000 in
theorem crash_any {w : World} {L : Lay} {N : Net} (h : Rep w L N) (hok : N.Ok) (k : Int) :
    Calls Try.prog 27 #[netPtr L, .int .i64 k] w fun e w' => e = .returned (.int .i64 (N.crash k).2) ∧ Moves w L N w' (N.crash k).1 := by
  rcases awake_cases h hok k with ⟨i, s, rfl, hs, hd, hA⟩ | ⟨er, hA, her, hC⟩
  · have e : N.crash i = (N.setSite i { s with down := true, opened := [] }, 0) := by simp [Net.crash, hA]
    rw [e]
    have hup := awake_up h hok.eight hs hd
    have c0 := h.site1 hs
    have c6 := h.site6 hs
    have hsl := h.sitesLt
    have sf := h.sitesFree
    have hmk := run_makeDeals
    have m1 := (Moved.refl h).setDown hs true
    have hs1 := setSite_at hs { s with down := true }
    have m2 := (m1.alloc (.map #[] 0)).newOpen hs1 (b := w.heap.size) (by have := alloc_same (w.setCell ⟨L.at_ .sites, i * 7 + 1, none⟩ (.bool true)) (.map #[] 0); simpa using this) (m1.rep.new_mut (by simp)) (m1.rep.new_fix (by simp)) (Nat.le_refl _)
    rw [setSite_twice, World.setCell_alloc_past (w := w.setCell ⟨L.at_ .sites, i * 7 + 1, none⟩ (.bool true)) _ (L.at_ .sites) _ _ (by simpa using hsl)] at m2
    have hM := m2.moves
    have HU := Lib.hid hup
    have HM := Lib.hid hM
    clear hup hA e h hok hs hd m1 m2 hs1 hM
    unfold netPtr sitePtr at *
    go_enter Try.func27, Try.ntmps27
    go_wp2_with fail
    refine HU.out.mono ?_
    rintro e w' ⟨rfl, rfl⟩
    go_wp2
    go_ret
    exact ⟨rfl, HM.out⟩
  · have e : N.crash k = (N, er) := by simp [Net.crash, hA]
    rw [e]
    have hM := Moves.refl h
    have hz : (er == 0) = false := by simpa using her
    have HM := Lib.hid hM
    have HC := Lib.hid hC
    clear hM hC hA e h hok her
    unfold netPtr at *
    go_enter Try.func27, Try.ntmps27
    go_wp2_with fail
    refine HC.out.mono ?_
    rintro e w' ⟨rfl, rfl⟩
    go_wp2
    go_ret
    exact ⟨rfl, HM.out⟩

set_option maxRecDepth 20000 in
set_option maxHeartbeats 1000000 in
theorem start_any {w : World} {L : Lay} {N : Net} (h : Rep w L N) (hok : N.Ok) (k : Int) :
    Calls Try.prog 28 #[netPtr L, .int .i64 k] w fun e w' => e = .returned (.int .i64 (N.start k).2) ∧ Moves w L N w' (N.start k).1 := by
  by_cases hk : N.isSite k = true
  · obtain ⟨i, s, rfl, hs, hi⟩ := isSite_elim hk
    have hf := find_ok h hok.eight i hi
    have c1 := h.site1 hs
    have hsl := h.sitesLt
    have sf := h.sitesFree (i * 7 + 1)
    have HF := Lib.hid hf
    cases hd : s.down with
    | true =>
      have e : N.start i = (N.setSite i { s with down := false }, 0) := by simp [Net.start, hk, hs, hd]
      rw [e]
      have hM := ((Moved.refl h).setDown hs false).moves
      have HM := Lib.hid hM
      rw [hd] at c1
      clear hf hM e h hok hs hk hd
      unfold netPtr sitePtr at *
      go_enter Try.func28, Try.ntmps28
      go_wp2_with fail
      refine HF.out.mono ?_
      rintro e w' ⟨rfl, rfl⟩
      go_wp2
      go_ret
      exact ⟨rfl, HM.out⟩
    | false =>
      have e : N.start i = (N, 7) := by simp [Net.start, hk, hs, hd]
      rw [e]
      have hM := Moves.refl h
      have HM := Lib.hid hM
      rw [hd] at c1
      clear hf hM e h hok hs hk hd
      unfold netPtr sitePtr at *
      go_enter Try.func28, Try.ntmps28
      go_wp2_with fail
      refine HF.out.mono ?_
      rintro e w' ⟨rfl, rfl⟩
      go_wp2
      go_ret
      exact ⟨rfl, HM.out⟩
  · have e : N.start k = (N, 3) := by simp [Net.start, hk]
    rw [e]
    have hf := find_bad h hok.eight hok.one k (by simpa using hk)
    have hM := Moves.refl h
    have HM := Lib.hid hM
    have HF := Lib.hid hf
    clear hf hM h hok hk e
    unfold netPtr at *
    go_enter Try.func28, Try.ntmps28
    go_wp2_with fail
    refine HF.out.mono ?_
    rintro e w' ⟨rfl, rfl⟩
    go_wp2
    go_ret
    exact ⟨rfl, HM.out⟩

set_option maxRecDepth 20000 in
set_option maxHeartbeats 1000000 in
theorem outcome_any {w : World} {L : Lay} {N : Net} (h : Rep w L N) (hok : N.Ok) (k : Int) {tx : Int} (htx : i64 tx) :
    Calls Try.prog 16 #[netPtr L, .int .i64 k, .int .i64 tx] w fun e w' => e = .returned (.int .i64 (N.outcome k tx)) ∧ Below w.heap.size w w' := by
  by_cases hk : N.isSite k = true
  · obtain ⟨i, s, rfl, hs, hi⟩ := isSite_elim hk
    have hf := find_ok h hok.eight i hi
    have c2 := h.site2 hs
    have c3 := h.site3 hs
    have c4 := h.site4 hs
    have hsl := h.sitesLt
    have HF := Lib.hid hf
    obtain ⟨a, b, _, o, ho, hlook⟩ := h.lookProm hs htx
    obtain ⟨ok, hok', hMk⟩ := h.keptAt hs
    obtain ⟨od, hod, hMd⟩ := h.dropAt hs
    have l1 := hlook _ ho
    have l2 := looks hok' (fun W hW => hMk.lookSet htx _ W hW)
    have l3 := looks hod (fun W hW => hMd.lookSet htx _ W hW)
    have hbl := fun o => (Below.refl w.heap.size w).alloc (Nat.le_refl _) o
    have HBl := Lib.hid hbl
    clear hbl
    have e : N.outcome i tx = if AL.has tx s.promised then 1 else if AL.has tx s.kept then 2 else if AL.has tx s.dropped then 3 else 0 := by simp [Net.outcome, hk, hs]
    obtain ⟨r, hr⟩ : ∃ r, r = N.outcome i tx := ⟨_, rfl⟩
    rw [← hr]
    rw [e] at hr
    clear hlook hMk hMd ho hok' hod hf hk hs h e
    generalize AL.has tx s.promised = b1 at *
    generalize AL.has tx s.kept = b2 at *
    generalize AL.has tx s.dropped = b3 at *
    have HR := Lib.hid hr
    clear hr
    unfold netPtr sitePtr at *
    cases b1 <;> cases b2 <;> cases b3 <;>
    · go_enter Try.func16, Try.ntmps16
      go_wp2_with fail
      refine HF.out.mono ?_
      rintro e w' ⟨rfl, rfl⟩
      go_wp2
      all_goals (go_ret; exact ⟨by rw [HR.out] <;> rfl, HBl.out _⟩)
  · have e : N.outcome k tx = 0 := by simp [Net.outcome, hk]
    rw [e]
    have hf := find_bad h hok.eight hok.one k (by simpa using hk)
    have HF := Lib.hid hf
    clear hf e h hok hk
    unfold netPtr at *
    go_enter Try.func16, Try.ntmps16
    go_wp2_with fail
    refine HF.out.mono ?_
    rintro e w' ⟨rfl, rfl⟩
    go_wp2
    go_ret
    exact ⟨rfl, Below.refl _ _⟩
end Go.Proofs.Ytfmfgckfeojfcaa
