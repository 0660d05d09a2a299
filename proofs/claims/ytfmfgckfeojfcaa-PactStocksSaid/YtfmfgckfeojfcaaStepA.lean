/- Walks of package pact: the small functions, and the sending of letters. -/
import Derived.Test.YtfmfgckfeojfcaaUpd
import Derived.Lib.Hide
import Derived.BigQuiet
import Derived.Deep.QuietTactic
set_option linter.unusedSimpArgs false
set_option linter.unusedVariables false
namespace Go.Proofs.Ytfmfgckfeojfcaa
open Go.RowKit Go.Maps Go.ChangeMaps

/-- The net at L comes from N to N', where it lay or in new blocks; nothing else turns. -/
structure Moved (w : World) (L : Lay) (N : Net) (w' : World) (L' : Lay) (N' : Net) : Prop where
  rep : Rep w' L' N'
  only : Only (Mut L N) w w'
  net : L'.at_ .net = L.at_ .net
  sites : L'.at_ .sites = L.at_ .sites
  muts : ∀ b, Mut L' N' b → Mut L N b ∨ w.heap.size ≤ b
  fixs : ∀ b, Fix L' N' b → Fix L N b ∨ w.heap.size ≤ b
def Moves (w : World) (L : Lay) (N : Net) (w' : World) (N' : Net) : Prop := ∃ L', Moved w L N w' L' N'

section
variable {w w1 w2 : World} {L L1 L2 : Lay} {N N1 N2 : Net}
theorem Moved.refl (h : Rep w L N) : Moved w L N w L N := ⟨h, Only.refl _ _, rfl, rfl, fun _ h => .inl h, fun _ h => .inl h⟩
theorem Moved.trans (h : Moved w L N w1 L1 N1) (k : Moved w1 L1 N1 w2 L2 N2) : Moved w L N w2 L2 N2 where
  rep := k.rep
  only := h.only.trans k.only fun b hb hm => by rcases h.muts b hm with h1 | h1; exact h1; omega
  net := k.net.trans h.net
  sites := k.sites.trans h.sites
  muts b hb := by
    rcases k.muts b hb with h1 | h1
    · exact h.muts b h1
    · have := h.only.size; exact .inr (by omega)
  fixs b hb := by
    rcases k.fixs b hb with h1 | h1
    · exact h.fixs b h1
    · have := h.only.size; exact .inr (by omega)
theorem Moved.moves (h : Moved w L N w1 L1 N1) : Moves w L N w1 N1 := ⟨L1, h⟩
theorem Moves.refl (h : Rep w L N) : Moves w L N w N := ⟨L, .refl h⟩
/-- Blocks laid ahead, draws: the walk's own. -/
theorem Moved.alloc (h : Moved w L N w1 L1 N1) (o : Obj) : Moved w L N (w1.alloc o) L1 N1 := ⟨h.rep.alloc o, h.only.alloc o, h.net, h.sites, h.muts, h.fixs⟩
theorem Moved.drew (h : Moved w L N w1 L1 N1) : Moved w L N w1.drew L1 N1 := ⟨h.rep.drew, h.only.drew, h.net, h.sites, h.muts, h.fixs⟩
theorem Moved.new (h : Moved w L N w1 L1 N1) {a : Addr} (ha : w.heap.size ≤ a.block) (hm : ¬ Mut L1 N1 a.block) (hf : ¬ Fix L1 N1 a.block) (v : Value) : Moved w L N (w1.setCell a v) L1 N1 :=
  ⟨h.rep.kept fun b hb => setCell_other w1 a v (by rintro rfl; rcases hb with hb | hb <;> contradiction), h.only.setCell a v (.inr ha), h.net, h.sites, h.muts, h.fixs⟩
end

/-- .. and only its letters have turned. -/
structure Sent (w : World) (L : Lay) (N : Net) (w' : World) (L' : Lay) (N' : Net) : Prop where
  moved : Moved w L N w' L' N'
  keep : ∀ t, t ≠ .mail → L'.at_ t = L.at_ t
  pbs : L'.pb = L.pb
  same : N'.sites = N.sites
  count : N'.count = N.count
def Sents (w : World) (L : Lay) (N : Net) (w' : World) (N' : Net) : Prop := ∃ L', Sent w L N w' L' N'
section
variable {w w1 w2 : World} {L L1 L2 : Lay} {N N1 N2 : Net}
theorem Sent.refl (h : Rep w L N) : Sent w L N w L N := ⟨.refl h, fun _ _ => rfl, rfl, rfl, rfl⟩
theorem Sent.trans (h : Sent w L N w1 L1 N1) (k : Sent w1 L1 N1 w2 L2 N2) : Sent w L N w2 L2 N2 :=
  ⟨h.moved.trans k.moved, fun t e => (k.keep t e).trans (h.keep t e), k.pbs.trans h.pbs, k.same.trans h.same, k.count.trans h.count⟩
theorem Sent.alloc (h : Sent w L N w1 L1 N1) (o : Obj) : Sent w L N (w1.alloc o) L1 N1 := ⟨h.moved.alloc o, h.keep, h.pbs, h.same, h.count⟩
theorem Sent.drew (h : Sent w L N w1 L1 N1) : Sent w L N w1.drew L1 N1 := ⟨h.moved.drew, h.keep, h.pbs, h.same, h.count⟩
theorem Sent.new (h : Sent w L N w1 L1 N1) {a : Addr} (ha : w.heap.size ≤ a.block) (hm : ¬ Mut L1 N1 a.block) (hf : ¬ Fix L1 N1 a.block) (v : Value) : Sent w L N (w1.setCell a v) L1 N1 :=
  ⟨h.moved.new ha hm hf v, h.keep, h.pbs, h.same, h.count⟩
theorem Sents.moves (h : Sents w L N w1 N1) : Moves w L N w1 N1 := let ⟨L1, h⟩ := h; ⟨L1, h.moved⟩
theorem Sents.refl (h : Rep w L N) : Sents w L N w N := ⟨L, .refl h⟩
theorem deal_same (h : N1.sites = N.sites) (g : Bool) (i : Nat) (tx : Int) : N1.deal g i tx = N.deal g i tx := by simp [Net.deal, Net.deals, h]
/-- A block that is new beyond w1's is none of the net's. -/
theorem Rep.new_mut (h : Rep w L N) {b : Nat} (hb : w.heap.size ≤ b) : ¬ Mut L N b := fun hm => by have := h.mut_lt hm; omega
theorem Rep.new_fix (h : Rep w L N) {b : Nat} (hb : w.heap.size ≤ b) : ¬ Fix L N b := fun hm => by have := h.fix_lt hm; omega
end

theorem ret_tup {a b : Value} (h : a = b) : Ending.returned a = .returned b := by rw [h]

theorem within_any (n lo hi : Int) (w : World) :
    Calls Try.prog 29 #[.int .i64 n, .int .i64 lo, .int .i64 hi] w fun e w' => e = .returned (.bool (decide (lo ≤ n) && decide (n ≤ hi))) ∧ w = w' := by
  by_cases h1 : lo ≤ n
  · go_enter Try.func29, Try.ntmps29
    go_wp2
    all_goals (go_ret; exact ⟨by simp_all, rfl⟩)
  · have h2 : n < lo := by omega
    have h3 : (decide (lo ≤ n) && decide (n ≤ hi)) = false := by simp; intros; omega
    have H3 := Lib.hid h3
    clear h3
    go_enter Try.func29, Try.ntmps29
    go_wp2
    all_goals (go_ret; exact ⟨by rw [H3.out]; rfl, rfl⟩)

theorem sites_any {w : World} {L : Lay} {N : Net} (h : Rep w L N) (hn : N.sites.length ≤ 8) :
    Calls Try.prog 8 #[.pointer (some ⟨L.at_ .net, 0, none⟩)] w fun e w' => e = .returned (.int .i64 N.sites.length) ∧ w = w' := by
  have c0 := h.net0
  clear h
  go_enter Try.func8, Try.ntmps8
  go_wp2
  go_ret
  exact ⟨rfl, rfl⟩

/-- What find hands back. -/
def sitePtr (L : Lay) (k : Nat) : Value := .pointer (some ⟨L.at_ .sites, k * 7, none⟩)
def netPtr (L : Lay) : Value := .pointer (some ⟨L.at_ .net, 0, none⟩)

theorem find_ok {w : World} {L : Lay} {N : Net} (h : Rep w L N) (hn : N.sites.length ≤ 8) (i : Nat) (hi : i < N.sites.length) :
    Calls Try.prog 30 #[netPtr L, .int .i64 i] w fun e w' => e = .returned (.tuple #[sitePtr L i, .int .i64 0]) ∧ w = w' := by
  have c0 := h.net0
  have h1 : ((N.sites.length : Int) == 0) = false := by simp; intro e; rw [e] at hi; simp at hi
  have h2 : (decide ((0 : Int) ≤ i) && decide ((i : Int) ≤ N.sites.length - 1)) = true := by simp; omega
  have hs := fun w' (h : Rep w' L N) => sites_any h hn
  unfold netPtr sitePtr
  have H2 := Lib.hid h2
  clear h2
  generalize hl : N.sites.length = n at *
  clear hl
  go_enter Try.func30, Try.ntmps30
  go_wp2_with fail
  refine (hs _ h).mono ?_
  rintro e w' ⟨rfl, rfl⟩
  go_wp2_with fail
  refine (within_any _ _ _ _).mono ?_
  rintro e w' ⟨rfl, rfl⟩
  rw [H2.out]
  clear hs
  go_wp2
  go_ret2
  exact ⟨rfl, rfl⟩

theorem find_bad {w : World} {L : Lay} {N : Net} (h : Rep w L N) (hn : N.sites.length ≤ 8) (h0 : 0 < N.sites.length) (k : Int) (hk : N.isSite k = false) :
    Calls Try.prog 30 #[netPtr L, .int .i64 k] w fun e w' => e = .returned (.tuple #[.pointer none, .int .i64 3]) ∧ w = w' := by
  have c0 := h.net0
  have h1 : ((N.sites.length : Int) == 0) = false := by simp; intro e; rw [e] at h0; simp at h0
  have h2 : (decide ((0 : Int) ≤ k) && decide (k ≤ N.sites.length - 1)) = false := by simp [Net.isSite] at hk ⊢; omega
  have hs := fun w' (h : Rep w' L N) => sites_any h hn
  unfold netPtr
  have H2 := Lib.hid h2
  clear h2 hk
  generalize hl : N.sites.length = n at *
  clear hl
  go_enter Try.func30, Try.ntmps30
  go_wp2_with fail
  refine (hs _ h).mono ?_
  rintro e w' ⟨rfl, rfl⟩
  go_wp2_with fail
  refine (within_any _ _ _ _).mono ?_
  rintro e w' ⟨rfl, rfl⟩
  rw [H2.out]
  clear hs
  go_wp2
  go_ret2
  exact ⟨rfl, rfl⟩
end Go.Proofs.Ytfmfgckfeojfcaa
