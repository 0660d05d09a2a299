/- The calls, of a net that keeps off some blocks (F): those are as they were, whatever the net does. -/
import Derived.Test.YtfmfgckfeojfcaaStepX
set_option linter.unusedSimpArgs false
set_option linter.unusedVariables false
namespace Go.Proofs.Ytfmfgckfeojfcaa
open Go.RowKit Go.Maps Go.ChangeMaps

/-- A net in order, at the pointer nb, that keeps off the blocks of F. -/
def OwnF (F : Nat → Prop) (w : World) (nb : Nat) (N : Net) : Prop := ∃ L, L.at_ .net = nb ∧ Rep w L N ∧ N.Ok ∧ ∀ b, F b → b < w.heap.size ∧ ¬ Mut L N b ∧ ¬ Fix L N b
/-- The blocks of F are as they were. -/
def Keep (F : Nat → Prop) (w w' : World) : Prop := Only (fun b => ¬ F b) w w'
section
variable {F F' : Nat → Prop} {nb : Nat} {w w' w1 w2 : World} {N N' : Net}
theorem Keep.refl (F : Nat → Prop) (w : World) : Keep F w w := Only.refl _ _
theorem Keep.trans (h : Keep F w w1) (k : Keep F w1 w2) : Keep F w w2 := Only.trans h k fun _ _ h => h
theorem Keep.of_below (h : Below w.heap.size w w') : Keep F w w' := Only.of_below h
theorem Keep.mono (h : Keep F w w') (hF : ∀ b, F' b → F b) : Keep F' w w' := Only.mono h fun b _ hn e => hn (hF b e)
theorem Keep.block (h : Keep F w w') {b : Nat} (hb : b < w.heap.size) (hF : F b) : w'.heap[b]? = w.heap[b]? := Only.block h b hb (fun e => e hF)
theorem Keep.size (h : Keep F w w') : w.heap.size ≤ w'.heap.size := Only.size h
theorem OwnF.lt (h : OwnF F w nb N) {b : Nat} (hb : F b) : b < w.heap.size := by obtain ⟨L, _, _, _, h4⟩ := h; exact (h4 b hb).1
theorem OwnF.ok (h : OwnF F w nb N) : N.Ok := by obtain ⟨L, _, _, h3, _⟩ := h; exact h3
/-- Blocks of F turn, and new ones come. -/
theorem OwnF.turn {S : Nat → Prop} (h : OwnF F w nb N) (hw : Only S w w') (hs : ∀ b, S b → F b) : OwnF F w' nb N := by
  obtain ⟨L, h1, h2, h3, h4⟩ := h
  exact ⟨L, h1, h2.only hw (fun b hb => (h4 b (hs b hb)).2.1) (fun b hb => (h4 b (hs b hb)).2.2), h3, fun b hb => ⟨Nat.lt_of_lt_of_le (h4 b hb).1 hw.size, (h4 b hb).2⟩⟩
theorem OwnF.below (h : OwnF F w nb N) (hb : Below w.heap.size w w') : OwnF F w' nb N := h.turn (S := fun _ => False) (Only.of_below hb) fun _ h => h.elim
/-- More blocks to keep off: such as are new. -/
theorem OwnF.more {S : Nat → Prop} (h : OwnF F w nb N) (hw : Only S w w') (hs : ∀ b, S b → F b) (hF : ∀ b, F' b → b < w'.heap.size ∧ (F b ∨ w.heap.size ≤ b)) : OwnF F' w' nb N := by
  obtain ⟨L, h1, h2, h3, h4⟩ := h
  refine ⟨L, h1, h2.only hw (fun b hb => (h4 b (hs b hb)).2.1) (fun b hb => (h4 b (hs b hb)).2.2), h3, fun b hb => ⟨(hF b hb).1, ?_⟩⟩
  rcases (hF b hb).2 with h5 | h5
  · exact (h4 b h5).2
  · exact ⟨fun e => by have := h2.mut_lt e; omega, fun e => by have := h2.fix_lt e; omega⟩
theorem OwnF.moves {L : Lay} (h1 : L.at_ .net = nb) (h4 : ∀ b, F b → b < w.heap.size ∧ ¬ Mut L N b ∧ ¬ Fix L N b) (hM : Moves w L N w' N') (hok : N'.Ok) : OwnF F w' nb N' ∧ Keep F w w' := by
  obtain ⟨L', hM⟩ := hM
  have hs := hM.only.size
  refine ⟨⟨L', hM.net.trans h1, hM.rep, hok, fun b hb => ⟨Nat.lt_of_lt_of_le (h4 b hb).1 hs, fun e => ?_, fun e => ?_⟩⟩, hM.only.mono fun b hb hm e => (h4 b e).2.1 hm⟩
  · rcases hM.muts b e with h | h
    · exact (h4 b hb).2.1 h
    · have := (h4 b hb).1; omega
  · rcases hM.fixs b e with h | h
    · exact (h4 b hb).2.2 h
    · have := (h4 b hb).1; omega
theorem ownF_new {b cap : Nat} {l : List Int} {o : Obj} (hb : w.heap[b]? = some o) (hr : IsRow 3 1 l.length cap (l.map (Value.int .i64)) o) (hl : okNew l = true) :
    Calls Try.prog 7 #[.slice (some ⟨b, 0, none⟩) l.length cap] w fun e w' => ∃ nb, e = .returned (.tuple #[ptr nb, .int .i64 0]) ∧ OwnF (fun b => b < w.heap.size) w' nb (Net.new l) ∧ Below w.heap.size w w' := by
  refine (new_any hb hr hl).mono ?_
  rintro e w' ⟨L, rfl, hR, hm, hbl⟩
  refine ⟨L.at_ .net, rfl, ⟨L, rfl, hR, Net.Ok.new hl, fun b hb => ⟨Nat.lt_of_lt_of_le hb hbl.size, fun e => by have := hm b e; omega, fun e => ?_⟩⟩, hbl⟩
  obtain ⟨g, i, tx, d, hd, _⟩ := e
  unfold Net.deal Net.deals Net.new at hd
  simp only [List.getElem?_map] at hd
  cases hx : l[i]? with
  | none => rw [hx] at hd; simp at hd
  | some x => rw [hx] at hd; cases g <;> simp [Site.fresh, Site.deals, AL.get?] at hd
theorem ownF_deliver (h : OwnF F w nb N) (k : Int) : Calls Try.prog 23 #[ptr nb, .int .i64 k] w fun e w' => e = .returned (.int .i64 (N.deliver k).2) ∧ OwnF F w' nb (N.deliver k).1 ∧ Keep F w w' := by
  obtain ⟨L, rfl, h2, h3, h4⟩ := h
  refine (deliver_any h2 h3 k).mono ?_
  rintro e w' ⟨rfl, hM⟩
  exact ⟨rfl, OwnF.moves rfl h4 hM (h3.deliver k)⟩
theorem ownF_repeat (h : OwnF F w nb N) (k : Int) : Calls Try.prog 24 #[ptr nb, .int .i64 k] w fun e w' => e = .returned (.int .i64 (N.repeat_ k).2) ∧ OwnF F w' nb (N.repeat_ k).1 ∧ Keep F w w' := by
  obtain ⟨L, rfl, h2, h3, h4⟩ := h
  refine (repeat_any h2 h3 k).mono ?_
  rintro e w' ⟨rfl, hM⟩
  exact ⟨rfl, OwnF.moves rfl h4 hM (h3.repeat_ k)⟩
theorem ownF_lose (h : OwnF F w nb N) (k : Int) : Calls Try.prog 25 #[ptr nb, .int .i64 k] w fun e w' => e = .returned (.int .i64 (N.lose k).2) ∧ OwnF F w' nb (N.lose k).1 ∧ Keep F w w' := by
  obtain ⟨L, rfl, h2, h3, h4⟩ := h
  refine (lose_any h2 h3 k).mono ?_
  rintro e w' ⟨rfl, hM⟩
  exact ⟨rfl, OwnF.moves rfl h4 hM (h3.lose k)⟩
theorem ownF_cancel (h : OwnF F w nb N) (k : Int) {tx : Int} (htx : i64 tx) : Calls Try.prog 22 #[ptr nb, .int .i64 k, .int .i64 tx] w fun e w' => e = .returned (.int .i64 (N.cancel k tx).2) ∧ OwnF F w' nb (N.cancel k tx).1 ∧ Keep F w w' := by
  obtain ⟨L, rfl, h2, h3, h4⟩ := h
  refine (cancel_any h2 h3 k htx).mono ?_
  rintro e w' ⟨rfl, hM⟩
  exact ⟨rfl, OwnF.moves rfl h4 hM (h3.cancel k tx)⟩
theorem ownF_tick (h : OwnF F w nb N) (k : Int) : Calls Try.prog 26 #[ptr nb, .int .i64 k] w fun e w' => e = .returned (.int .i64 (N.tick k).2) ∧ OwnF F w' nb (N.tick k).1 ∧ Keep F w w' := by
  obtain ⟨L, rfl, h2, h3, h4⟩ := h
  refine (tick_any h2 h3 k).mono ?_
  rintro e w' ⟨rfl, hM⟩
  exact ⟨rfl, OwnF.moves rfl h4 hM (h3.tick k)⟩
theorem ownF_crash (h : OwnF F w nb N) (k : Int) : Calls Try.prog 27 #[ptr nb, .int .i64 k] w fun e w' => e = .returned (.int .i64 (N.crash k).2) ∧ OwnF F w' nb (N.crash k).1 ∧ Keep F w w' := by
  obtain ⟨L, rfl, h2, h3, h4⟩ := h
  refine (crash_any h2 h3 k).mono ?_
  rintro e w' ⟨rfl, hM⟩
  exact ⟨rfl, OwnF.moves rfl h4 hM (h3.crash k)⟩
theorem ownF_start (h : OwnF F w nb N) (k : Int) : Calls Try.prog 28 #[ptr nb, .int .i64 k] w fun e w' => e = .returned (.int .i64 (N.start k).2) ∧ OwnF F w' nb (N.start k).1 ∧ Keep F w w' := by
  obtain ⟨L, rfl, h2, h3, h4⟩ := h
  refine (start_any h2 h3 k).mono ?_
  rintro e w' ⟨rfl, hM⟩
  exact ⟨rfl, OwnF.moves rfl h4 hM (h3.start k)⟩
/-- The parts lie in a row that was made behind the net. -/
theorem ownF_begin (h : OwnF F w nb N) (hb : Below w.heap.size w w') (k : Int) {v : Value} {ps : List Move} (hv : w'.ownsRow w.heap.size 43 2 v ps.length (ps.flatMap Move.cells)) (hpl : ps.length ≤ 64) :
    Calls Try.prog 18 #[ptr nb, .int .i64 k, v] w' fun e w2 => e = .returned (.tuple #[.int .i64 (N.begin_ k ps).2.1, .int .i64 (N.begin_ k ps).2.2]) ∧ OwnF F w2 nb (N.begin_ k ps).1 ∧ Keep F w' w2 := by
  obtain ⟨L, rfl, h2, h3, h4⟩ := h
  have hR := h2.below hb
  have h4' : ∀ b, F b → b < w'.heap.size ∧ ¬ Mut L N b ∧ ¬ Fix L N b := fun b hF => ⟨Nat.lt_of_lt_of_le (h4 b hF).1 hb.size, (h4 b hF).2⟩
  rcases isRow_of_owns hv with ⟨rfl, e, _⟩ | ⟨g, cap, o, rfl, hg, ho, hr⟩
  · have : ps = [] := List.eq_nil_of_length_eq_zero e
    subst this
    refine (begin_nil_any hR h3 k).mono ?_
    rintro e w2 ⟨rfl, hM⟩
    exact ⟨rfl, OwnF.moves rfl h4' hM (h3.begin_ k [])⟩
  · refine (begin_any hR h3 k ⟨o, ho, hr⟩ (h2.new_mut hg) hpl).mono ?_
    rintro e w2 ⟨rfl, hM⟩
    exact ⟨rfl, OwnF.moves rfl h4' hM (h3.begin_ k ps)⟩
theorem ownF_stock (h : OwnF F w nb N) (k : Int) : Calls Try.prog 17 #[ptr nb, .int .i64 k] w fun e w' => e = .returned (.tuple #[.int .i64 (N.stock k).1, .int .i64 (N.stock k).2]) ∧ w = w' := by
  obtain ⟨L, rfl, h2, h3, h4⟩ := h
  exact stock_any h2 h3.eight h3.one k
theorem ownF_up (h : OwnF F w nb N) (k : Int) : Calls Try.prog 19 #[ptr nb, .int .i64 k] w fun e w' => e = .returned (.bool (N.up k)) ∧ w = w' := by
  obtain ⟨L, rfl, h2, h3, h4⟩ := h
  exact up_any h2 h3.eight h3.one k
theorem ownF_sites (h : OwnF F w nb N) : Calls Try.prog 8 #[ptr nb] w fun e w' => e = .returned (.int .i64 N.sites.length) ∧ w = w' := by
  obtain ⟨L, rfl, h2, h3, h4⟩ := h
  exact sites_any h2 h3.eight
theorem ownF_settled (h : OwnF F w nb N) : Calls Try.prog 13 #[ptr nb] w fun e w' => e = .returned (.bool N.settled) ∧ Below w.heap.size w w' := by
  obtain ⟨L, rfl, h2, h3, h4⟩ := h
  exact settled_any h2 h3
theorem ownF_outcome (h : OwnF F w nb N) (k : Int) {tx : Int} (htx : i64 tx) : Calls Try.prog 16 #[ptr nb, .int .i64 k, .int .i64 tx] w fun e w' => e = .returned (.int .i64 (N.outcome k tx)) ∧ Below w.heap.size w w' := by
  obtain ⟨L, rfl, h2, h3, h4⟩ := h
  exact outcome_any h2 h3 k htx
theorem ownF_letters (h : OwnF F w nb N) : Calls Try.prog 20 #[ptr nb] w fun e w' => ∃ v', e = .returned v' ∧ w'.ownsRow w.heap.size 77 5 v' N.mail.length (N.mail.flatMap Mail.cells) ∧ Below w.heap.size w w' := by
  obtain ⟨L, rfl, h2, h3, h4⟩ := h
  exact letters_any h2 h3.mail
end
end Go.Proofs.Ytfmfgckfeojfcaa
