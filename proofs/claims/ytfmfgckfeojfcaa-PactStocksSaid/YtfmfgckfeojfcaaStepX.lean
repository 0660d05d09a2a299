/- The calls, of a net that lies in blocks of its own. -/
import Derived.Test.YtfmfgckfeojfcaaStepR
import Derived.Test.YtfmfgckfeojfcaaStepS
import Derived.Test.YtfmfgckfeojfcaaStepT
import Derived.Test.YtfmfgckfeojfcaaStepU
import Derived.Test.YtfmfgckfeojfcaaStepW
set_option linter.unusedSimpArgs false
set_option linter.unusedVariables false
namespace Go.Proofs.Ytfmfgckfeojfcaa
open Go.RowKit Go.Maps Go.ChangeMaps

theorem begin_nil_any {w : World} {L : Lay} {N : Net} (h : Rep w L N) (hok : N.Ok) (k : Int) :
    Calls Try.prog 18 #[netPtr L, .int .i64 k, .slice none 0 0] w fun e w' => e = .returned (.tuple #[.int .i64 (N.begin_ k []).2.1, .int .i64 (N.begin_ k []).2.2]) ∧ Moves w L N w' (N.begin_ k []).1 := by
  rcases awake_cases h hok k with ⟨i, s, rfl, hs, hd, hA⟩ | ⟨er, hA, her, hC⟩
  · have hup := awake_up h hok.eight hs hd
    have hval := valid_nil_any h
    have hmv := Moved.refl h
    have HU := Lib.hid hup
    have HV := Lib.hid hval
    have e : N.begin_ i [] = (N, 0, 2) := by unfold Net.begin_; rw [hA]; rfl
    rw [e]
    have hM := fun w' hb => (hmv.below (w' := w') hb).moves
    have HM := Lib.hid hM
    clear hA e h hok hs hd hup hval hmv hM
    unfold netPtr sitePtr at *
    go_enter Try.func18, Try.ntmps18
    go_wp2_with fail
    refine HU.out.mono ?_
    rintro e w' ⟨rfl, rfl⟩
    go_wp2_with fail
    refine HV.out.mono ?_
    rintro e w' ⟨rfl, hb⟩
    have HB := Lib.hid (HM.out _ hb)
    clear hb
    go_wp2
    go_ret2
    exact ⟨rfl, HB.out⟩
  · have e : N.begin_ k [] = (N, 0, er) := by simp [Net.begin_, hA]
    rw [e]
    have hM := Moves.refl h
    have hz : (er == 0) = false := by simpa using her
    have HM := Lib.hid hM
    have HC := Lib.hid hC
    clear hM hC hA e h hok her
    unfold netPtr at *
    go_enter Try.func18, Try.ntmps18
    go_wp2_with fail
    refine HC.out.mono ?_
    rintro e w' ⟨rfl, rfl⟩
    go_wp2
    go_ret2
    exact ⟨rfl, HM.out⟩

/-- A net in order, at the pointer nb, in blocks from 'base' on. -/
def Own (base : Nat) (w : World) (nb : Nat) (N : Net) : Prop := base ≤ w.heap.size ∧ ∃ L, L.at_ .net = nb ∧ Rep w L N ∧ N.Ok ∧ ∀ b, Mut L N b → base ≤ b
def ptr (nb : Nat) : Value := .pointer (some ⟨nb, 0, none⟩)

section
variable {base nb : Nat} {w w' : World} {N N' : Net}
theorem Own.below (h : Own base w nb N) (hb : Below w.heap.size w w') : Own base w' nb N := by
  obtain ⟨h0, L, h1, h2, h3, h4⟩ := h
  exact ⟨Nat.le_trans h0 hb.size, L, h1, h2.below hb, h3, h4⟩
theorem Own.moves (h0 : base ≤ w.heap.size) {L : Lay} (h1 : L.at_ .net = nb) (h4 : ∀ b, Mut L N b → base ≤ b) (hM : Moves w L N w' N') (hok : N'.Ok) : Own base w' nb N' ∧ Below base w w' := by
  obtain ⟨L', hM⟩ := hM
  have hs := hM.only.size
  refine ⟨⟨by omega, L', hM.net.trans h1, hM.rep, hok, fun b hb => ?_⟩, ?_⟩
  · rcases hM.muts b hb with h | h
    · exact h4 b h
    · omega
  · exact hM.only.below fun b hb => ⟨by omega, fun hm => by have := h4 b hm; omega⟩

theorem own_new {b cap : Nat} {l : List Int} {o : Obj} (hb : w.heap[b]? = some o) (hr : IsRow 3 1 l.length cap (l.map (Value.int .i64)) o) (hl : okNew l = true) :
    Calls Try.prog 7 #[.slice (some ⟨b, 0, none⟩) l.length cap] w fun e w' => ∃ nb, e = .returned (.tuple #[ptr nb, .int .i64 0]) ∧ Own w.heap.size w' nb (Net.new l) ∧ Below w.heap.size w w' := by
  refine (new_any hb hr hl).mono ?_
  rintro e w' ⟨L, rfl, hR, hm, hbl⟩
  exact ⟨L.at_ .net, rfl, ⟨hbl.size, L, rfl, hR, Net.Ok.new hl, hm⟩, hbl⟩
theorem own_deliver (h : Own base w nb N) (k : Int) : Calls Try.prog 23 #[ptr nb, .int .i64 k] w fun e w' => e = .returned (.int .i64 (N.deliver k).2) ∧ Own base w' nb (N.deliver k).1 ∧ Below base w w' := by
  obtain ⟨h0, L, rfl, h2, h3, h4⟩ := h
  refine (deliver_any h2 h3 k).mono ?_
  rintro e w' ⟨rfl, hM⟩
  exact ⟨rfl, Own.moves h0 rfl h4 hM (h3.deliver k)⟩
theorem own_repeat (h : Own base w nb N) (k : Int) : Calls Try.prog 24 #[ptr nb, .int .i64 k] w fun e w' => e = .returned (.int .i64 (N.repeat_ k).2) ∧ Own base w' nb (N.repeat_ k).1 ∧ Below base w w' := by
  obtain ⟨h0, L, rfl, h2, h3, h4⟩ := h
  refine (repeat_any h2 h3 k).mono ?_
  rintro e w' ⟨rfl, hM⟩
  exact ⟨rfl, Own.moves h0 rfl h4 hM (h3.repeat_ k)⟩
theorem own_lose (h : Own base w nb N) (k : Int) : Calls Try.prog 25 #[ptr nb, .int .i64 k] w fun e w' => e = .returned (.int .i64 (N.lose k).2) ∧ Own base w' nb (N.lose k).1 ∧ Below base w w' := by
  obtain ⟨h0, L, rfl, h2, h3, h4⟩ := h
  refine (lose_any h2 h3 k).mono ?_
  rintro e w' ⟨rfl, hM⟩
  exact ⟨rfl, Own.moves h0 rfl h4 hM (h3.lose k)⟩
theorem own_cancel (h : Own base w nb N) (k : Int) {tx : Int} (htx : i64 tx) : Calls Try.prog 22 #[ptr nb, .int .i64 k, .int .i64 tx] w fun e w' => e = .returned (.int .i64 (N.cancel k tx).2) ∧ Own base w' nb (N.cancel k tx).1 ∧ Below base w w' := by
  obtain ⟨h0, L, rfl, h2, h3, h4⟩ := h
  refine (cancel_any h2 h3 k htx).mono ?_
  rintro e w' ⟨rfl, hM⟩
  exact ⟨rfl, Own.moves h0 rfl h4 hM (h3.cancel k tx)⟩
theorem own_tick (h : Own base w nb N) (k : Int) : Calls Try.prog 26 #[ptr nb, .int .i64 k] w fun e w' => e = .returned (.int .i64 (N.tick k).2) ∧ Own base w' nb (N.tick k).1 ∧ Below base w w' := by
  obtain ⟨h0, L, rfl, h2, h3, h4⟩ := h
  refine (tick_any h2 h3 k).mono ?_
  rintro e w' ⟨rfl, hM⟩
  exact ⟨rfl, Own.moves h0 rfl h4 hM (h3.tick k)⟩
theorem own_crash (h : Own base w nb N) (k : Int) : Calls Try.prog 27 #[ptr nb, .int .i64 k] w fun e w' => e = .returned (.int .i64 (N.crash k).2) ∧ Own base w' nb (N.crash k).1 ∧ Below base w w' := by
  obtain ⟨h0, L, rfl, h2, h3, h4⟩ := h
  refine (crash_any h2 h3 k).mono ?_
  rintro e w' ⟨rfl, hM⟩
  exact ⟨rfl, Own.moves h0 rfl h4 hM (h3.crash k)⟩
theorem own_start (h : Own base w nb N) (k : Int) : Calls Try.prog 28 #[ptr nb, .int .i64 k] w fun e w' => e = .returned (.int .i64 (N.start k).2) ∧ Own base w' nb (N.start k).1 ∧ Below base w w' := by
  obtain ⟨h0, L, rfl, h2, h3, h4⟩ := h
  refine (start_any h2 h3 k).mono ?_
  rintro e w' ⟨rfl, hM⟩
  exact ⟨rfl, Own.moves h0 rfl h4 hM (h3.start k)⟩
/-- The parts lie in a row that was made behind the net. -/
theorem own_begin (h : Own base w nb N) (hb : Below w.heap.size w w') (k : Int) {v : Value} {ps : List Move} (hv : w'.ownsRow w.heap.size 43 2 v ps.length (ps.flatMap Move.cells)) (hpl : ps.length ≤ 64) :
    Calls Try.prog 18 #[ptr nb, .int .i64 k, v] w' fun e w2 => e = .returned (.tuple #[.int .i64 (N.begin_ k ps).2.1, .int .i64 (N.begin_ k ps).2.2]) ∧ Own base w2 nb (N.begin_ k ps).1 ∧ Below base w' w2 := by
  obtain ⟨h0, L, rfl, h2, h3, h4⟩ := h
  have hR := h2.below hb
  have h0' := Nat.le_trans h0 hb.size
  rcases isRow_of_owns hv with ⟨rfl, e, _⟩ | ⟨g, cap, o, rfl, hg, ho, hr⟩
  · have : ps = [] := List.eq_nil_of_length_eq_zero e
    subst this
    refine (begin_nil_any hR h3 k).mono ?_
    rintro e w2 ⟨rfl, hM⟩
    exact ⟨rfl, Own.moves h0' rfl h4 hM (h3.begin_ k [])⟩
  · refine (begin_any hR h3 k ⟨o, ho, hr⟩ (h2.new_mut hg) hpl).mono ?_
    rintro e w2 ⟨rfl, hM⟩
    exact ⟨rfl, Own.moves h0' rfl h4 hM (h3.begin_ k ps)⟩
theorem own_stock (h : Own base w nb N) (k : Int) : Calls Try.prog 17 #[ptr nb, .int .i64 k] w fun e w' => e = .returned (.tuple #[.int .i64 (N.stock k).1, .int .i64 (N.stock k).2]) ∧ w = w' := by
  obtain ⟨h0, L, rfl, h2, h3, h4⟩ := h
  exact stock_any h2 h3.eight h3.one k
theorem own_up (h : Own base w nb N) (k : Int) : Calls Try.prog 19 #[ptr nb, .int .i64 k] w fun e w' => e = .returned (.bool (N.up k)) ∧ w = w' := by
  obtain ⟨h0, L, rfl, h2, h3, h4⟩ := h
  exact up_any h2 h3.eight h3.one k
theorem own_sites (h : Own base w nb N) : Calls Try.prog 8 #[ptr nb] w fun e w' => e = .returned (.int .i64 N.sites.length) ∧ w = w' := by
  obtain ⟨h0, L, rfl, h2, h3, h4⟩ := h
  exact sites_any h2 h3.eight
theorem own_settled (h : Own base w nb N) : Calls Try.prog 13 #[ptr nb] w fun e w' => e = .returned (.bool N.settled) ∧ Below w.heap.size w w' := by
  obtain ⟨h0, L, rfl, h2, h3, h4⟩ := h
  exact settled_any h2 h3
theorem own_outcome (h : Own base w nb N) (k : Int) {tx : Int} (htx : i64 tx) : Calls Try.prog 16 #[ptr nb, .int .i64 k, .int .i64 tx] w fun e w' => e = .returned (.int .i64 (N.outcome k tx)) ∧ Below w.heap.size w w' := by
  obtain ⟨h0, L, rfl, h2, h3, h4⟩ := h
  exact outcome_any h2 h3 k htx
theorem own_letters (h : Own base w nb N) : Calls Try.prog 20 #[ptr nb] w fun e w' => ∃ v', e = .returned v' ∧ w'.ownsRow w.heap.size 77 5 v' N.mail.length (N.mail.flatMap Mail.cells) ∧ Below w.heap.size w w' := by
  obtain ⟨h0, L, rfl, h2, h3, h4⟩ := h
  exact letters_any h2 h3.mail
end
end Go.Proofs.Ytfmfgckfeojfcaa
