/- How a net lies in memory, and what each single store does to it. No condition. -/
import Derived.Test.YtfmfgckfeojfcaaRows
import Derived.Test.YtfmfgckfeojfcaaNet
import Derived.Test.YtfmfgckfeojfcaaCells
set_option linter.unusedSimpArgs false
set_option linter.unusedVariables false
namespace Go.Proofs.Ytfmfgckfeojfcaa
open Go.RowKit Go.Maps Go.ChangeMaps

def okI (v : Value) : Prop := ∃ l, keyOf Try.prog 3 v = some l
theorem keyI : KeyT Try.prog 3 okI := KeyT.of_keyed (int_keyed Try.underlying3)
def i64 (n : Int) : Prop := -9223372036854775808 ≤ n ∧ n ≤ 9223372036854775807
theorem okI_of {n : Int} (h : i64 n) : okI (.int .i64 n) := ⟨_, keyOf_int_mk Try.underlying3 (by obtain ⟨h1, h2⟩ := h; exact WalkArith.wf_i64 (by omega))⟩
theorem encI_inj (a b : Int) (h : Value.int .i64 a = Value.int .i64 b) : a = b := by cases h; rfl
theorem oneMap (t : TypeId) {e : TypeId} (h : Try.prog.underlying t = some (.map 3 e)) : Try.prog.underlying t = some (.map 3 e) := h

inductive Tag where
  | net | sites | mail
  | prom (i : Nat) | kept (i : Nat) | drop (i : Nat)
  | deals (g : Bool) (i : Nat)
  | done (g : Bool) (i : Nat) (tx : Int)
  deriving DecidableEq

structure Lay where
  at_ : Tag → Nat
  scap : Nat
  mcap : Nat
  pb : Bool → Nat → Int → Nat × Nat

def Mail.cells (m : Mail) : List Value := [.int .i64 m.src, .int .i64 m.dst, .int .i64 m.kind, .int .i64 m.tx, .int .i64 m.n]
def Move.cells (m : Move) : List Value := [.int .i64 m.site, .int .i64 m.change]
theorem Mail.cells5 (m : Mail) : m.cells.length = 5 := rfl
theorem Move.cells2 (m : Move) : m.cells.length = 2 := rfl
def Mail.val (m : Mail) : Value := .agg #[.int .i64 m.src, .int .i64 m.dst, .int .i64 m.kind, .int .i64 m.tx, .int .i64 m.n]
def promV (m : List (Int × (Int × Int))) : List (Int × Value) := m.map fun p => (p.1, .agg #[.int .i64 p.2.1, .int .i64 p.2.2])
def setV (m : List (Int × Unit)) : List (Int × Value) := m.map fun p => (p.1, .bool true)
def dealVal (L : Lay) (g : Bool) (i : Nat) (tx : Int) (d : Deal) : Value :=
  .agg #[.slice (some ⟨(L.pb g i tx).1, 0, none⟩) d.parts.length (L.pb g i tx).2, .map (some (L.at_ (.done g i tx)))]
def dealsV (L : Lay) (g : Bool) (i : Nat) (m : List (Int × Deal)) : List (Int × Value) := m.map fun p => (p.1, dealVal L g i p.1 p.2)
def siteCells (L : Lay) (x : (Int × Bool) × Nat) : List Value :=
  [.int .i64 x.1.1, .bool x.1.2, .map (some (L.at_ (.prom x.2))), .map (some (L.at_ (.kept x.2))), .map (some (L.at_ (.drop x.2))), .map (some (L.at_ (.deals true x.2))), .map (some (L.at_ (.deals false x.2)))]
theorem siteCells7 (L : Lay) (x : (Int × Bool) × Nat) : (siteCells L x).length = 7 := rfl

/-! what of a net each block shows -/
def Site.deals (g : Bool) (s : Site) : List (Int × Deal) := if g then s.granted else s.opened
namespace Net
def sd (N : Net) : List (Int × Bool) := N.sites.map fun s => (s.stock, s.down)
def proms (N : Net) (i : Nat) : Option (List (Int × (Int × Int))) := (N.sites[i]?).map (·.promised)
def kepts (N : Net) (i : Nat) : Option (List (Int × Unit)) := (N.sites[i]?).map (·.kept)
def drops (N : Net) (i : Nat) : Option (List (Int × Unit)) := (N.sites[i]?).map (·.dropped)
def deals (N : Net) (g : Bool) (i : Nat) : Option (List (Int × Deal)) := (N.sites[i]?).map (·.deals g)
def deal (N : Net) (g : Bool) (i : Nat) (tx : Int) : Option Deal := (N.deals g i).bind (AL.get? tx)
end Net

def Live (L : Lay) (N : Net) : Tag → Prop
  | .net | .sites => True
  | .mail => 0 < L.mcap
  | .prom i | .kept i | .drop i | .deals _ i => i < N.sites.length
  | .done g i tx => (N.deal g i tx).isSome = true

def mailV (L : Lay) (N : Net) : Value := if L.mcap = 0 then .slice none 0 0 else .slice (some ⟨L.at_ .mail, 0, none⟩) N.mail.length L.mcap

def Shape (L : Lay) (N : Net) : Tag → Obj → Prop
  | .net, o => o = .cells #[.slice (some ⟨L.at_ .sites, 0, none⟩) N.sd.length L.scap, mailV L N, .int .i64 N.count] 50 (0, 0)
  | .sites, o => IsRow 64 7 N.sd.length L.scap (N.sd.zipIdx.flatMap (siteCells L)) o
  | .mail, o => IsRow 77 5 N.mail.length L.mcap (N.mail.flatMap Mail.cells) o
  | .prom i, o => ∃ m, N.proms i = some m ∧ MapObj okI (Value.int .i64) (promV m) o
  | .kept i, o => ∃ m, N.kepts i = some m ∧ MapObj okI (Value.int .i64) (setV m) o
  | .drop i, o => ∃ m, N.drops i = some m ∧ MapObj okI (Value.int .i64) (setV m) o
  | .deals g i, o => ∃ m, N.deals g i = some m ∧ MapObj okI (Value.int .i64) (dealsV L g i m) o
  | .done g i tx, o => ∃ d, N.deal g i tx = some d ∧ MapObj okI (Value.int .i64) (setV d.done) o

def PartsAt (w : World) (p : Nat × Nat) (ps : List Move) : Prop := ∃ o, w.heap[p.1]? = some o ∧ IsRow 43 2 ps.length p.2 (ps.flatMap Move.cells) o

structure Rep (w : World) (L : Lay) (N : Net) : Prop where
  here : ∀ t, Live L N t → ∃ o, w.heap[L.at_ t]? = some o ∧ Shape L N t o
  inj : ∀ t t', Live L N t → Live L N t' → L.at_ t = L.at_ t' → t = t'
  parts : ∀ g i tx d, N.deal g i tx = some d → PartsAt w (L.pb g i tx) d.parts
  apart : ∀ g i tx d t, N.deal g i tx = some d → Live L N t → L.at_ t ≠ (L.pb g i tx).1
  mlen : N.mail.length ≤ L.mcap

/-- The blocks that a net's calls write. -/
def Mut (L : Lay) (N : Net) (b : Nat) : Prop := ∃ t, Live L N t ∧ L.at_ t = b
/-- The blocks that hold the parts of its deals. -/
def Fix (L : Lay) (N : Net) (b : Nat) : Prop := ∃ g i tx d, N.deal g i tx = some d ∧ (L.pb g i tx).1 = b

theorem Net.sd_length (N : Net) : N.sd.length = N.sites.length := by simp [Net.sd]

section
variable {w w' : World} {L L' : Lay} {N N' : Net}

theorem Rep.mut_lt (h : Rep w L N) {b : Nat} (hb : Mut L N b) : b < w.heap.size := by
  obtain ⟨t, ht, rfl⟩ := hb
  obtain ⟨o, ho, _⟩ := h.here t ht
  exact lt_of ho
theorem Rep.fix_lt (h : Rep w L N) {b : Nat} (hb : Fix L N b) : b < w.heap.size := by
  obtain ⟨g, i, tx, d, hd, rfl⟩ := hb
  obtain ⟨o, ho, _⟩ := h.parts g i tx d hd
  exact lt_of ho
theorem Rep.fix_mut (h : Rep w L N) {b : Nat} (hb : Fix L N b) : ¬ Mut L N b := by
  rintro ⟨t, ht, e⟩
  obtain ⟨g, i, tx, d, hd, rfl⟩ := hb
  exact h.apart g i tx d t hd ht e

/-- The blocks are as they were: so is the net. -/
theorem Rep.kept (h : Rep w L N) (hk : ∀ b, Mut L N b ∨ Fix L N b → w'.heap[b]? = w.heap[b]?) : Rep w' L N where
  here t ht := by
    obtain ⟨o, ho, hs⟩ := h.here t ht
    exact ⟨o, (hk _ (.inl ⟨t, ht, rfl⟩)).trans ho, hs⟩
  inj := h.inj
  parts g i tx d hd := by
    obtain ⟨o, ho, hs⟩ := h.parts g i tx d hd
    exact ⟨o, (hk _ (.inr ⟨g, i, tx, d, hd, rfl⟩)).trans ho, hs⟩
  apart := h.apart
  mlen := h.mlen
theorem Rep.only {S : Nat → Prop} (h : Rep w L N) (hw : Only S w w') (hm : ∀ b, S b → ¬ Mut L N b) (hf : ∀ b, S b → ¬ Fix L N b) : Rep w' L N :=
  h.kept fun b hb => hw.block b (by rcases hb with hb | hb; exact h.mut_lt hb; exact h.fix_lt hb) (fun hs => by rcases hb with hb | hb; exact hm b hs hb; exact hf b hs hb)
theorem Rep.alloc (h : Rep w L N) (o : Obj) : Rep (w.alloc o) L N := h.kept fun b hb => alloc_other w o (by rcases hb with hb | hb; exact h.mut_lt hb; exact h.fix_lt hb)
theorem Rep.drew (h : Rep w L N) : Rep w.drew L N := h.kept fun _ _ => rfl
theorem Rep.new (h : Rep w L N) {a : Addr} (ha : w.heap.size ≤ a.block) {w1 : World} (h1 : Rep w1 L N) (v : Value) : Rep (w1.setCell a v) L N :=
  h1.kept fun b hb => setCell_other w1 a v (by rcases hb with hb | hb; have := h.mut_lt hb; omega; have := h.fix_lt hb; omega)

/-- The frame of a change: which tags turn (E), which do not. -/
theorem Rep.change (h : Rep w L N) (E : Tag → Prop)
    (hlive : ∀ t, Live L' N' t → ¬ E t → Live L N t ∧ L'.at_ t = L.at_ t ∧ ∀ o, Shape L N t o → Shape L' N' t o)
    (hheap : ∀ t, Live L N t → ¬ E t → w'.heap[L.at_ t]? = w.heap[L.at_ t]?)
    (hE : ∀ t, Live L' N' t → E t → ∃ o, w'.heap[L'.at_ t]? = some o ∧ Shape L' N' t o)
    (hinj : ∀ t t', Live L' N' t → Live L' N' t' → E t → L'.at_ t = L'.at_ t' → t = t')
    (hparts : ∀ g i tx d, N'.deal g i tx = some d → PartsAt w' (L'.pb g i tx) d.parts)
    (hapart : ∀ g i tx d t, N'.deal g i tx = some d → Live L' N' t → L'.at_ t ≠ (L'.pb g i tx).1)
    (hmlen : N'.mail.length ≤ L'.mcap) : Rep w' L' N' where
  here t ht := by
    by_cases e : E t
    · exact hE t ht e
    · obtain ⟨h1, h2, h3⟩ := hlive t ht e
      obtain ⟨o, ho, hs⟩ := h.here t h1
      exact ⟨o, by rw [h2, hheap t h1 e]; exact ho, h3 o hs⟩
  inj t t' ht ht' he := by
    by_cases e : E t
    · exact hinj t t' ht ht' e he
    · by_cases e' : E t'
      · exact (hinj t' t ht' ht e' he.symm).symm
      · obtain ⟨h1, h2, _⟩ := hlive t ht e
        obtain ⟨h1', h2', _⟩ := hlive t' ht' e'
        exact h.inj t t' h1 h1' (by rw [← h2, ← h2', he])
  parts := hparts
  apart := hapart
  mlen := hmlen

/-! ### what a walk reads -/
theorem Rep.net (h : Rep w L N) : w.heap[L.at_ .net]? = some (.cells #[.slice (some ⟨L.at_ .sites, 0, none⟩) N.sites.length L.scap, mailV L N, .int .i64 N.count] 50 (0, 0)) := by
  obtain ⟨o, ho, hs⟩ := h.here .net trivial
  simp only [Shape, Net.sd_length] at hs
  rw [ho, hs]
theorem Rep.net0 (h : Rep w L N) : w.cell? ⟨L.at_ .net, 0, none⟩ = some (.slice (some ⟨L.at_ .sites, 0, none⟩) N.sites.length L.scap) := cell_of h.net rfl
theorem Rep.net1 (h : Rep w L N) : w.cell? ⟨L.at_ .net, 1, none⟩ = some (mailV L N) := cell_of h.net rfl
theorem Rep.net2 (h : Rep w L N) : w.cell? ⟨L.at_ .net, 2, none⟩ = some (.int .i64 N.count) := cell_of h.net rfl
theorem Rep.netFree (h : Rep w L N) (off : Nat) : w.frozen? ⟨L.at_ .net, off, none⟩ = false := free_of h.net
theorem Rep.netLt (h : Rep w L N) : L.at_ .net < w.heap.size := lt_of h.net
theorem Rep.sitesAt (h : Rep w L N) : ∃ o, w.heap[L.at_ .sites]? = some o ∧ IsRow 64 7 N.sites.length L.scap (N.sd.zipIdx.flatMap (siteCells L)) o := by
  obtain ⟨o, ho, hs⟩ := h.here .sites trivial
  simp only [Shape, Net.sd_length] at hs
  exact ⟨o, ho, hs⟩
theorem Rep.sitesLt (h : Rep w L N) : L.at_ .sites < w.heap.size := by obtain ⟨o, ho, _⟩ := h.sitesAt; exact lt_of ho
theorem Rep.sitesFree (h : Rep w L N) (off : Nat) : w.frozen? ⟨L.at_ .sites, off, none⟩ = false := by obtain ⟨o, ho, hr⟩ := h.sitesAt; exact hr.free ho off
theorem Rep.siteCell (h : Rep w L N) {i : Nat} {s : Site} (hs : N.sites[i]? = some s) {j : Nat} {v : Value} (hv : (siteCells L ((s.stock, s.down), i))[j]? = some v) : w.cell? ⟨L.at_ .sites, i * 7 + j, none⟩ = some v := by
  obtain ⟨o, ho, hr⟩ := h.sitesAt
  refine hr.cell ho ?_
  have hj : j < 7 := by have := (List.getElem?_eq_some_iff.1 hv).1; rw [siteCells7] at this; exact this
  rw [get_flat (fun x _ => siteCells7 L x) hj, List.getElem?_zipIdx]
  simp [Net.sd, hs]
  exact hv
theorem Rep.site0 (h : Rep w L N) {i : Nat} {s : Site} (hs : N.sites[i]? = some s) : w.cell? ⟨L.at_ .sites, i * 7, none⟩ = some (.int .i64 s.stock) := h.siteCell hs (j := 0) rfl
theorem Rep.site1 (h : Rep w L N) {i : Nat} {s : Site} (hs : N.sites[i]? = some s) : w.cell? ⟨L.at_ .sites, i * 7 + 1, none⟩ = some (.bool s.down) := h.siteCell hs (j := 1) rfl
theorem Rep.site2 (h : Rep w L N) {i : Nat} {s : Site} (hs : N.sites[i]? = some s) : w.cell? ⟨L.at_ .sites, i * 7 + 2, none⟩ = some (.map (some (L.at_ (.prom i)))) := h.siteCell hs (j := 2) rfl
theorem Rep.site3 (h : Rep w L N) {i : Nat} {s : Site} (hs : N.sites[i]? = some s) : w.cell? ⟨L.at_ .sites, i * 7 + 3, none⟩ = some (.map (some (L.at_ (.kept i)))) := h.siteCell hs (j := 3) rfl
theorem Rep.site4 (h : Rep w L N) {i : Nat} {s : Site} (hs : N.sites[i]? = some s) : w.cell? ⟨L.at_ .sites, i * 7 + 4, none⟩ = some (.map (some (L.at_ (.drop i)))) := h.siteCell hs (j := 4) rfl
theorem Rep.site5 (h : Rep w L N) {i : Nat} {s : Site} (hs : N.sites[i]? = some s) : w.cell? ⟨L.at_ .sites, i * 7 + 5, none⟩ = some (.map (some (L.at_ (.deals true i)))) := h.siteCell hs (j := 5) rfl
theorem Rep.site6 (h : Rep w L N) {i : Nat} {s : Site} (hs : N.sites[i]? = some s) : w.cell? ⟨L.at_ .sites, i * 7 + 6, none⟩ = some (.map (some (L.at_ (.deals false i)))) := h.siteCell hs (j := 6) rfl
theorem siteLt {i : Nat} {s : Site} (hs : N.sites[i]? = some s) : i < N.sites.length := (List.getElem?_eq_some_iff.1 hs).1
theorem Rep.promAt (h : Rep w L N) {i : Nat} {s : Site} (hs : N.sites[i]? = some s) : ∃ o, w.heap[L.at_ (.prom i)]? = some o ∧ MapObj okI (Value.int .i64) (promV s.promised) o := by
  obtain ⟨o, ho, m, hm, hM⟩ := h.here (.prom i) (siteLt hs)
  simp [Net.proms, hs] at hm
  exact ⟨o, ho, hm ▸ hM⟩
theorem Rep.keptAt (h : Rep w L N) {i : Nat} {s : Site} (hs : N.sites[i]? = some s) : ∃ o, w.heap[L.at_ (.kept i)]? = some o ∧ MapObj okI (Value.int .i64) (setV s.kept) o := by
  obtain ⟨o, ho, m, hm, hM⟩ := h.here (.kept i) (siteLt hs)
  simp [Net.kepts, hs] at hm
  exact ⟨o, ho, hm ▸ hM⟩
theorem Rep.dropAt (h : Rep w L N) {i : Nat} {s : Site} (hs : N.sites[i]? = some s) : ∃ o, w.heap[L.at_ (.drop i)]? = some o ∧ MapObj okI (Value.int .i64) (setV s.dropped) o := by
  obtain ⟨o, ho, m, hm, hM⟩ := h.here (.drop i) (siteLt hs)
  simp [Net.drops, hs] at hm
  exact ⟨o, ho, hm ▸ hM⟩
theorem Rep.dealsAt (h : Rep w L N) {i : Nat} {s : Site} (hs : N.sites[i]? = some s) (g : Bool) : ∃ o, w.heap[L.at_ (.deals g i)]? = some o ∧ MapObj okI (Value.int .i64) (dealsV L g i (s.deals g)) o := by
  obtain ⟨o, ho, m, hm, hM⟩ := h.here (.deals g i) (siteLt hs)
  simp [Net.deals, hs] at hm
  exact ⟨o, ho, hm ▸ hM⟩
theorem deal_of {i : Nat} {s : Site} (hs : N.sites[i]? = some s) {g : Bool} {tx : Int} {d : Deal} (hd : AL.get? tx (s.deals g) = some d) : N.deal g i tx = some d := by simp [Net.deal, Net.deals, hs, hd]
theorem Rep.doneAt (h : Rep w L N) {g : Bool} {i : Nat} {tx : Int} {d : Deal} (hd : N.deal g i tx = some d) : ∃ o, w.heap[L.at_ (.done g i tx)]? = some o ∧ MapObj okI (Value.int .i64) (setV d.done) o := by
  obtain ⟨o, ho, d', hd', hM⟩ := h.here (.done g i tx) (by simp [Live, hd])
  rw [hd] at hd'; cases hd'
  exact ⟨o, ho, hM⟩
theorem Rep.mailAt (h : Rep w L N) (hm : 0 < L.mcap) : ∃ o, w.heap[L.at_ .mail]? = some o ∧ IsRow 77 5 N.mail.length L.mcap (N.mail.flatMap Mail.cells) o := h.here .mail hm
theorem Rep.mailOwns (h : Rep w L N) : w.ownsRow 0 77 5 (mailV L N) N.mail.length (N.mail.flatMap Mail.cells) := by
  unfold mailV
  split
  · rename_i e
    have : N.mail = [] := List.eq_nil_of_length_eq_zero (by have := h.mlen; omega)
    rw [this]
    exact World.ownsRow_nil w 0 _ _
  · rename_i e
    obtain ⟨o, ho, hr⟩ := h.mailAt (by omega)
    exact hr.owns ho (Nat.zero_le _)
end

end Go.Proofs.Ytfmfgckfeojfcaa
