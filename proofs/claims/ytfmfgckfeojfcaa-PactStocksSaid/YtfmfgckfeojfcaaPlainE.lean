/- Plain: the calm, and what stands at its end. -/
import Derived.Test.YtfmfgckfeojfcaaPlainD
set_option linter.unusedSimpArgs false
set_option linter.unusedVariables false
namespace Go.Proofs.Ytfmfgckfeojfcaa

structure Act where
  kind : Int
  site : Int
  n : Int
  parts : List Move
def Act.code (a : Act) : Int := a.kind % 18446744073709551616 % 15
def act (N : Net) (a : Act) (txs : Int) : Net × Int :=
  if a.code = 0 ∨ a.code = 1 then ((N.begin_ a.site (a.parts.take 9)).1, if (N.begin_ a.site (a.parts.take 9)).2.2 = 0 then max txs (N.begin_ a.site (a.parts.take 9)).2.1 else txs)
  else if a.code = 2 then ((N.cancel a.site a.n).1, txs)
  else if a.code ≤ 7 then ((N.deliver a.n).1, txs)
  else if a.code = 8 then ((N.repeat_ a.n).1, txs)
  else if a.code = 9 then ((N.lose a.n).1, txs)
  else if a.code ≤ 11 then ((N.tick a.site).1, txs)
  else if a.code = 12 then ((N.crash a.site).1, txs)
  else ((N.start a.site).1, txs)

section
variable {N : Net} {i : Nat} {s : Site} {S0 : List Int} {all : List (List Move)} {T : Int → Prop}
theorem Inv.act (h : Inv Never S0 all N) (a : Act) : ((act N a N.count).2 = N.count ∧ Inv Never S0 all (act N a N.count).1) ∨ ((act N a N.count).2 = N.count + 1 ∧ Inv Never S0 (all ++ [a.parts.take 9]) (act N a N.count).1) := by
  unfold Go.Proofs.Ytfmfgckfeojfcaa.act
  split
  · rcases h.begin_ a.site (a.parts.take 9) with ⟨e1, e2, _⟩ | ⟨e1, e2, e3, e4⟩
    · left; dsimp only; rw [if_neg e1, e2]; exact ⟨rfl, h⟩
    · right; dsimp only; rw [if_pos e1, e2]; exact ⟨by omega, e4⟩
  split
  · exact .inl ⟨rfl, h.cancel _ _⟩
  split
  · exact .inl ⟨rfl, h.deliver _⟩
  split
  · exact .inl ⟨rfl, h.repeat_ _⟩
  split
  · exact .inl ⟨rfl, h.lose _⟩
  split
  · exact .inl ⟨rfl, h.tick _⟩
  split
  · exact .inl ⟨rfl, h.crash _⟩
  · exact .inl ⟨rfl, h.start _⟩

theorem Inv.widen {T T' : Int → Prop} (h : Inv T S0 all N) (hT : ∀ x, T' x → T x ∨ ¬ (0 ≤ x ∧ x < N.sites.length)) : Inv T' S0 all N := by
  refine ⟨h.ok, h.len, h.cnt, h.val, fun t P ht => ?_, h.stock⟩
  obtain ⟨K, C, h1, h2⟩ := h.tx t P ht
  refine ⟨K, C, h1, fun x d hx hd => ?_, fun x d hx hd => ?_, fun x hx hd => ?_⟩
  · rcases hT x hx with hx | hx
    · exact h2.q1 x d hx hd
    · rw [tv_out hx] at hd; simp [Sv.empty] at hd
  · rcases hT x hx with hx | hx
    · exact h2.q2 x d hx hd
    · rw [tv_out hx] at hd; simp [Sv.empty] at hd
  · rcases hT x hx with hx | hx
    · exact h2.q3 x hx hd
    · rw [tv_out hx] at hd; simp [Sv.empty] at hd

/-! ### the calm -/
def Always (_ : Int) : Prop := True
def Ups (k : Nat) (N : Net) : Prop := ∀ (j : Nat) (s : Site), j < k → N.sites[j]? = some s → s.down = false
theorem ups_all {k : Nat} (h : Ups k N) (hk : N.sites.length ≤ k) : ∀ s ∈ N.sites, s.down = false := fun s hs => by
  obtain ⟨j, hj⟩ := List.getElem?_of_mem hs
  exact h j s (by have := siteLt hj; omega) hj
theorem isSite_in (hs : N.sites[i]? = some s) : N.isSite i = true := by have := siteLt hs; unfold Net.isSite; simp; omega
theorem awake_up_eq (hs : N.sites[i]? = some s) (hd : s.down = false) : N.awake i = (some s, 0) := by
  unfold Net.awake
  have e : (i : Int).toNat = i := by omega
  rw [isSite_in hs, e, hs]; simp [hd]
theorem awake_down_eq (hs : N.sites[i]? = some s) (hd : s.down = true) : N.awake i = (none, 7) := by
  unfold Net.awake
  have e : (i : Int).toNat = i := by omega
  rw [isSite_in hs, e, hs]; simp [hd]
/-- The round of a calm's first loop. -/
theorem calm_start (h : Inv Never S0 all N) (hu : Ups i N) (hs : N.sites[i]? = some s) : (N.up i = true ∧ Ups (i + 1) N) ∨ (N.up i = false ∧ (N.start i).2 = 0 ∧ Inv Never S0 all (N.start i).1 ∧ Ups (i + 1) (N.start i).1 ∧ (N.start i).1.sites.length = N.sites.length) := by
  cases hd : s.down with
  | false =>
    left
    refine ⟨by unfold Net.up; rw [awake_up_eq hs hd]; rfl, fun j x hj hx => ?_⟩
    by_cases e : j = i
    · subst e; rw [hs] at hx; cases hx; exact hd
    · exact hu j x (by omega) hx
  | true =>
    right
    have e1 : (i : Int).toNat = i := by omega
    have e : N.start i = (N.setSite i { s with down := false }, 0) := by unfold Net.start; rw [isSite_in hs, e1, hs]; simp [hd]
    refine ⟨by unfold Net.up; rw [awake_down_eq hs hd]; rfl, by rw [e], h.start i, ?_, by rw [e]; exact setSite_length _ _ _⟩
    rw [e]
    intro j x hj hx
    dsimp only at hx
    rw [setSite_get hs] at hx
    by_cases e2 : j = i
    · rw [if_pos e2] at hx; cases hx; rfl
    · rw [if_neg e2] at hx; exact hu j x (by omega) hx
/-- The round of a calm's second loop. -/
theorem calm_tick (h : Inv (fun x => x < (i : Int)) S0 all N) (hu : ∀ s ∈ N.sites, s.down = false) (hs : N.sites[i]? = some s) : (N.tick i).2 = 0 ∧ (N.tick i).1.sites = N.sites ∧ Inv Never S0 all (N.tick i).1 ∧ ((N.tick i).1.mail.length < 1024 → Inv (fun x => x < ((i + 1 : Nat) : Int)) S0 all (N.tick i).1) := by
  have hd := hu s (List.mem_of_getElem? hs)
  refine ⟨by rw [tick_post h.ok hs hd], by rw [tick_post h.ok hs hd]; rfl, h.tickAt hs hd (.inl fun _ hx => hx), fun hlt => h.tickAt hs hd (.inr ⟨fun x => ?_, hlt⟩)⟩
  omega
theorem Inv.calm0 (h : Inv Never S0 all N) : Inv (fun x => x < ((0 : Nat) : Int)) S0 all N := h.widen fun x hx => .inr (by omega)
theorem Inv.calmAll (h : Inv (fun x => x < (N.sites.length : Int)) S0 all N) : Inv Always S0 all N := h.widen fun x _ => by omega
theorem pot_le (h : N.Ok) (hm : N.mail.length < 1024) {c : Nat} (hc : N.count ≤ c) : pot N ≤ 4092 + 128 * c := by
  have h1 : ∀ l : List Mail, mw l ≤ 4 * l.length := fun l => by
    induction l with
    | nil => simp [mw]
    | cons m r ih =>
      have : kw m.kind ≤ 4 := by unfold kw; (repeat' split) <;> omega
      simp [mw] at ih ⊢; omega
  have h2 : ∀ l : List (Int × Deal), (∀ p ∈ l, p.2.parts.length ≤ 8) → ow l ≤ 16 * l.length := fun l hl => by
    induction l with
    | nil => simp [ow]
    | cons m r ih =>
      have a := ih fun p hp => hl p (by simp [hp])
      have b := hl m (by simp)
      simp [ow] at a ⊢; omega
  have h3 : ∀ l : List Site, (∀ s ∈ l, s.Ok N.sites.length N.count) → (l.map fun s => ow s.opened).sum ≤ 16 * c * l.length := fun l hl => by
    induction l with
    | nil => simp
    | cons s r ih =>
      have a := ih fun p hp => hl p (by simp [hp])
      have ho := hl s (by simp)
      have b := h2 s.opened fun p hp => (ho.dealV false p hp).len
      have hr : AL.Rising s.opened := ho.dealR false
      have hk : ∀ p ∈ s.opened, 1 ≤ p.1 ∧ p.1 ≤ N.count := ho.dealK false
      have e := rising_len hr hk (by have := h.count; omega)
      have e2 : s.opened.length ≤ c := by omega
      have e3 : 16 * s.opened.length ≤ 16 * c := by omega
      simp only [List.map_cons, List.sum_cons, List.length_cons, Nat.mul_add, Nat.mul_one]
      omega
  have a1 := h1 N.mail
  have a2 := h3 N.sites h.site
  have a3 := h.eight
  have a4 : 16 * c * N.sites.length ≤ 16 * c * 8 := Nat.mul_le_mul_left _ a3
  unfold pot
  omega
/-- The round of a calm's last loop. -/
theorem calm_deliver (h : Inv Never S0 all N) (hA : N.mail.length < 1024 → Inv Always S0 all N) (hu : ∀ s ∈ N.sites, s.down = false) {k : Nat} (hk : k < N.mail.length) :
    (N.deliver k).2 = 0 ∧ Inv Never S0 all (N.deliver k).1 ∧ (∀ s ∈ (N.deliver k).1.sites, s.down = false) ∧ pot (N.deliver k).1 + 1 ≤ pot N ∧ (N.mail.length < 1024 → (N.deliver k).1.mail.length < 1024 → Inv Always S0 all (N.deliver k).1) := by
  have hm : N.mail[k]? = some N.mail[k] := List.getElem?_eq_getElem hk
  have e1 : (k : Int).toNat = k := by omega
  have e2 : N.isLetter k = true := by unfold Net.isLetter; simp; omega
  have e : N.deliver k = (({ N with mail := N.mail.eraseIdx k } : Net).handle N.mail[k], 0) := by unfold Net.deliver; rw [if_pos e2, e1, hm]
  have hmem := List.mem_of_getElem? hm
  have hsub : ∀ y ∈ N.mail.eraseIdx k, y ∈ N.mail := fun y hy => List.mem_of_mem_eraseIdx hy
  have hlen : (N.mail.eraseIdx k).length ≤ 1024 := Nat.le_trans (List.length_eraseIdx_le _ _) h.ok.mail
  obtain ⟨g1, g2, g3, g4⟩ := h.handle hmem hsub hlen (.inl fun _ hx => hx)
  have g4 := g4 hu
  have hw := mw_erase hm
  rw [e]
  refine ⟨rfl, g1, fun s hs => ?_, ?_, fun h1 h2 => ?_⟩
  · have : s.down ∈ N.sites.map (·.down) := by rw [← g2]; exact List.mem_map.2 ⟨s, hs, rfl⟩
    obtain ⟨x, hx, e3⟩ := List.mem_map.1 this
    rw [← e3]; exact hu x hx
  · dsimp only; unfold pot at g4 ⊢; omega
  · refine ((hA h1).handle hmem hsub hlen (.inr ⟨fun _ => trivial, hu, fun y hy => ?_, h2⟩)).1
    obtain ⟨j, hj⟩ := List.getElem?_of_mem hy
    by_cases hjk : j = k
    · subst hjk; rw [hm] at hj; cases hj; exact .inl rfl
    · right
      rw [List.mem_eraseIdx_iff_getElem?]
      exact ⟨j, hjk, hj⟩

/-! ### the end -/
theorem end_tx (h : Inv Always S0 all N) (hm : N.mail.length = 0) {t : Nat} {P : List Move} (ht : all[t]? = some P) : (∀ x, (N.tv (t + 1) x).opn = none ∧ (N.tv (t + 1) x).gran = none ∧ (N.tv (t + 1) x).prom = none) ∧ ((∀ p ∈ P, (N.tv (t + 1) p.site).kept = true) ∨ ∀ x, (N.tv (t + 1) x).kept = false) ∧ ∀ x, (N.tv (t + 1) x).kept = true → ∃ p ∈ P, p.site = x := by
  obtain ⟨K, C, h1, h2⟩ := h.tx t P ht
  have hnil : N.mail = [] := List.eq_nil_of_length_eq_zero hm
  have nT : ∀ k x, ¬ To (fun m => m ∈ N.mail ∧ m.tx = (t : Int) + 1) k x := fun k x ⟨m, hm, _⟩ => by rw [hnil] at hm; simp at hm
  have nO : ∀ k x, ¬ Of (fun m => m ∈ N.mail ∧ m.tx = (t : Int) + 1) k x := fun k x ⟨m, hm, _⟩ => by rw [hnil] at hm; simp at hm
  have a1 : ∀ x, (N.tv (t + 1) x).opn = none := fun x => by
    cases e : (N.tv (t + 1) x).opn with
    | none => rfl
    | some d =>
      obtain ⟨_, hp, _, hf, _⟩ := h1.opn x d e
      obtain ⟨p, hp1, hp2⟩ := (h.ok.tvDeal (.inl e)).not_full hf
      rcases h2.q1 x d trivial e p (by rw [← hp]; exact hp1) hp2 with e | e | e
      · exact absurd e (nT _ _)
      · exact absurd e (nO _ _)
      · exact absurd e (nO _ _)
  have a2 : ∀ x, (N.tv (t + 1) x).gran = none := fun x => by
    cases e : (N.tv (t + 1) x).gran with
    | none => rfl
    | some d =>
      obtain ⟨_, hp, _, hf, _⟩ := h1.gran x d e
      obtain ⟨p, hp1, hp2⟩ := (h.ok.tvDeal (.inr e)).not_full hf
      rcases h2.q2 x d trivial e p (by rw [← hp]; exact hp1) hp2 with e | e
      · exact absurd e (nT _ _)
      · exact absurd e (nO _ _)
  have a3 : ∀ x, (N.tv (t + 1) x).prom = none := fun x => by
    cases e : (N.tv (t + 1) x).prom with
    | none => rfl
    | some q =>
      rcases h2.q3 x trivial (by rw [e]; simp) with e | e | e | e | e | e
      · exact absurd (a1 K) e
      · exact absurd (a2 K) e
      · exact absurd e (nO _ _)
      · exact absurd e (nO _ _)
      · exact absurd e (nT _ _)
      · exact absurd e (nT _ _)
  refine ⟨fun x => ⟨a1 x, a2 x, a3 x⟩, ?_, fun x hx => (h1.kept x hx).2⟩
  by_cases hC : C
  · rcases h1.granted hC with e | e
    · exact absurd (a2 K) e
    · exact .inl e
  · right
    intro x
    cases e : (N.tv (t + 1) x).kept with
    | false => rfl
    | true => exact absurd (h1.kept x e).1 hC
theorem tx_index (h : Inv T S0 all N) {tx : Int} (ht : 1 ≤ tx ∧ tx ≤ N.count) : ∃ (t : Nat) (P : List Move), tx = (t : Int) + 1 ∧ all[t]? = some P := by
  have := h.cnt
  exact ⟨(tx - 1).toNat, all[(tx - 1).toNat]'(by omega), by omega, List.getElem?_eq_getElem (by omega)⟩
theorem end_settled (h : Inv Always S0 all N) (hm : N.mail.length = 0) : N.settled = true := by
  unfold Net.settled
  simp only [Bool.and_eq_true, decide_eq_true_eq, List.all_eq_true]
  refine ⟨hm, fun s hs => ?_⟩
  obtain ⟨i, hi⟩ := List.getElem?_of_mem hs
  have ho := h.ok.at hi
  have e1 : s.opened = [] := by
    refine List.eq_nil_iff_forall_not_mem.2 fun p hp => ?_
    obtain ⟨t, P, e, ht⟩ := tx_index h (ho.dealK false p hp)
    have h1 := ((end_tx h hm ht).1 i).1
    rw [tv_at hi, ← e] at h1
    exact AL.get?_none.1 h1 p hp rfl
  have e2 : s.granted = [] := by
    refine List.eq_nil_iff_forall_not_mem.2 fun p hp => ?_
    obtain ⟨t, P, e, ht⟩ := tx_index h (ho.dealK true p hp)
    have h1 := ((end_tx h hm ht).1 i).2.1
    rw [tv_at hi, ← e] at h1
    exact AL.get?_none.1 h1 p hp rfl
  have e3 : s.promised = [] := by
    refine List.eq_nil_iff_forall_not_mem.2 fun p hp => ?_
    obtain ⟨t, P, e, ht⟩ := tx_index h (ho.promK p hp)
    have h1 := ((end_tx h hm ht).1 i).2.2
    rw [tv_at hi, ← e] at h1
    exact AL.get?_none.1 h1 p hp rfl
  rw [e1, e2, e3]; rfl
theorem end_outcome (h : Inv Always S0 all N) (hm : N.mail.length = 0) {t : Nat} {P : List Move} (ht : all[t]? = some P) {x : Int} (hx : 0 ≤ x ∧ x < N.sites.length) : (N.outcome x (t + 1) = 2 ↔ (N.tv (t + 1) x).kept = true) := by
  obtain ⟨i, s, rfl, hs⟩ := tv_in hx
  have h1 := ((end_tx h hm ht).1 i).2.2
  have e1 : (i : Int).toNat = i := by omega
  rw [tv_at hs] at h1 ⊢
  unfold Net.outcome
  rw [isSite_in hs, e1, hs]
  have h2 : AL.has ((t : Int) + 1) s.promised = false := by rw [AL.has_eq_isSome]; have : AL.get? ((t : Int) + 1) s.promised = none := h1; rw [this]; rfl
  simp only [if_true, h2, Bool.false_eq_true, if_false, Site.sv]
  cases AL.has ((t : Int) + 1) s.kept
  · simp; split <;> decide
  · simp
/-- How many of the parts were kept: all, or none. -/
theorem end_count (h : Inv Always S0 all N) (hm : N.mail.length = 0) {t : Nat} {P : List Move} (ht : all[t]? = some P) : (∀ p ∈ P, N.outcome p.site (t + 1) = 2) ∨ (∀ p ∈ P, N.outcome p.site (t + 1) ≠ 2) := by
  have hv := (h.val P (List.mem_of_getElem? ht)).sites
  rcases (end_tx h hm ht).2.1 with e | e
  · exact .inl fun p hp => (end_outcome h hm ht (hv p hp)).2 (e p hp)
  · exact .inr fun p hp he => by have := (end_outcome h hm ht (hv p hp)).1 he; rw [e] at this; cases this

def rsum (n : Nat) (f : Nat → Int) : Int := ((List.range n).map f).sum
theorem rsum_succ (n : Nat) (f : Nat → Int) : rsum (n + 1) f = rsum n f + f n := by simp [rsum, List.range_succ, List.sum_append]
theorem rsum_add (n : Nat) (f g : Nat → Int) : rsum n (fun i => f i + g i) = rsum n f + rsum n g := by
  induction n with
  | zero => rfl
  | succ n ih => simp only [rsum_succ, ih]; omega
theorem rsum_congr {n : Nat} {f g : Nat → Int} (h : ∀ i, i < n → f i = g i) : rsum n f = rsum n g := by
  induction n with
  | zero => rfl
  | succ n ih => rw [rsum_succ, rsum_succ, ih fun i hi => h i (by omega), h n (by omega)]
theorem rsum_zero (n : Nat) : rsum n (fun _ => 0) = 0 := by
  induction n with
  | zero => rfl
  | succ n ih => rw [rsum_succ, ih]; rfl
theorem rsum_single {n : Nat} {c : Int} {x : Int} (hx : 0 ≤ x ∧ x < n) : rsum n (fun i => if x = (i : Int) then c else 0) = c := by
  induction n with
  | zero => omega
  | succ n ih =>
    rw [rsum_succ]
    by_cases e : x = (n : Int)
    · rw [if_pos e, rsum_congr (g := fun _ => 0) fun i hi => if_neg (by omega), rsum_zero]; omega
    · rw [if_neg e, ih (by omega)]; omega
theorem chg_cons (p : Move) (r : List Move) (x : Int) : chg (p :: r) x = (if p.site = x then p.change else 0) + chg r x := by
  unfold chg
  by_cases e : p.site = x
  · rw [List.filter_cons_of_pos (by simp [e]), if_pos e]; simp
  · rw [List.filter_cons_of_neg (by simp [e]), if_neg e]; simp
theorem rsum_chg {n : Nat} : ∀ {P : List Move}, (∀ p ∈ P, 0 ≤ p.site ∧ p.site < n) → rsum n (fun i => chg P i) = (P.map (·.change)).sum
  | [], _ => rsum_zero n
  | p :: r, h => by
    rw [rsum_congr (g := fun (i : Nat) => (if p.site = (i : Int) then p.change else 0) + chg r i) fun i _ => chg_cons p r i, rsum_add, rsum_single (h p (by simp)), rsum_chg fun q hq => h q (by simp [hq])]
    simp
theorem rsum_ksum {n : Nat} (f : Int → Nat → Bool) : ∀ {l : List (List Move)} {t : Int}, (∀ (j : Nat) (P : List Move), l[j]? = some P → rsum n (fun i => if f (t + j) i then chg P i else 0) = 0) → rsum n (fun i => ksum (fun t => f t i) i t l) = 0
  | [], t, _ => rsum_zero n
  | P :: r, t, h => by
    have h1 := h 0 P rfl
    simp only [Int.natCast_zero, Int.add_zero] at h1
    have h2 := rsum_ksum f (l := r) (t := t + 1) fun j Q hQ => by have := h (j + 1) Q (by simpa using hQ); rw [show t + ((j + 1 : Nat) : Int) = t + 1 + j by omega] at this; exact this
    show rsum n (fun i => (if f t i then chg P i else 0) + ksum (fun t => f t i) i (t + 1) r) = 0
    rw [rsum_add, h1, h2]; rfl
theorem sum_eq_rsum {α : Type} (g : α → Int) (d : Int) : ∀ (l : List α), (l.map g).sum = rsum l.length fun i => ((l[i]?).map g).getD d := fun l => by
  have : ∀ n, n ≤ l.length → ((l.take n).map g).sum = rsum n fun i => ((l[i]?).map g).getD d := fun n => by
    induction n with
    | zero => intro _; rfl
    | succ n ih =>
      intro hn
      rw [rsum_succ, ← ih (by omega), List.take_add_one, List.getElem?_eq_getElem (by omega)]
      simp only [Option.toList, List.map_append, List.sum_append, Option.map, Option.getD, List.map_cons, List.map_nil, List.sum_cons, List.sum_nil, Int.add_zero]
  have h := this l.length (Nat.le_refl _)
  rwa [List.take_length] at h
/-- The sum of all stocks is the first one. -/
theorem end_sum (h : Inv Always S0 all N) (hm : N.mail.length = 0) : (N.sites.map (·.stock)).sum = S0.sum := by
  have e0 : S0.sum = (S0.map id).sum := by simp
  rw [e0, sum_eq_rsum (fun s : Site => s.stock) 0 N.sites, sum_eq_rsum id 0 S0, h.len]
  have h1 : ∀ i, i < S0.length → ((N.sites[i]?).map (·.stock)).getD 0 = ((S0[i]?).map id).getD 0 + ksum (fun t => (N.tv t i).kept) i 1 all := fun i hi => by
    have hs : N.sites[i]? = some (N.sites[i]'(by rw [h.len]; exact hi)) := List.getElem?_eq_getElem _
    have hx : S0[i]? = some S0[i] := List.getElem?_eq_getElem hi
    have := h.stock i _ hx
    rw [stk_at hs] at this
    rw [hs, hx]
    exact this
  rw [rsum_congr h1, rsum_add]
  have h2 : rsum S0.length (fun i => ksum (fun t => (N.tv t i).kept) i 1 all) = 0 := by
    refine rsum_ksum (fun t i => (N.tv t i).kept) fun j P hP => ?_
    have hv := h.val P (List.mem_of_getElem? hP)
    obtain ⟨_, h3, h4⟩ := end_tx h hm hP
    rw [show (1 : Int) + (j : Int) = j + 1 by omega]
    rcases h3 with h3 | h3
    · rw [rsum_congr (g := fun (i : Nat) => chg P i) fun i hi => ?_, rsum_chg (by rw [← h.len]; exact hv.sites), hv.sum]
      split
      · rfl
      · rename_i hk
        have : P.filter (fun p => decide (p.site = (i : Int))) = [] := List.filter_eq_nil_iff.2 fun p hp e => hk (by have := h3 p hp; rwa [of_decide_eq_true e] at this)
        simp [chg, this]
    · rw [rsum_congr (g := fun _ => 0) fun i hi => by rw [h3]; rfl, rsum_zero]
  omega
/-- The stocks, reckoned from what was kept. -/
theorem end_stock (h : Inv T S0 all N) (hs : N.sites[i]? = some s) {x : Int} (hx : S0[i]? = some x) : s.stock = x + ksum (fun t => (N.tv t i).kept) i 1 all := by
  have := h.stock i x hx
  rwa [stk_at hs] at this
theorem chg_take {P : List Move} {j : Nat} {p : Move} (hp : P[j]? = some p) (x : Int) : chg (P.take (j + 1)) x = chg (P.take j) x + if p.site = x then p.change else 0 := by
  unfold chg
  rw [List.take_add_one, hp]
  simp only [Option.toList, List.filter_append, List.map_append, List.sum_append]
  by_cases e : p.site = x
  · simp [e]
  · simp [e]
theorem ksum_take {f : Int → Bool} {x : Int} {P : List Move} {l : List (List Move)} {t : Nat} (hP : l[t]? = some P) : ksum f x 1 (l.take (t + 1)) = ksum f x 1 (l.take t) + if f (t + 1) then chg P x else 0 := by
  have hl := (List.getElem?_eq_some_iff.1 hP).1
  rw [List.take_add_one, hP]
  simp only [Option.toList]
  rw [ksum_append, List.length_take, Nat.min_eq_left (by omega), show (1 : Int) + (t : Int) = t + 1 by omega]
theorem chg_bound {n : Nat} {P : List Move} (h : PartsOk n P) (j : Nat) (x : Int) : -8796093022208 ≤ chg (P.take j) x ∧ chg (P.take j) x ≤ 8796093022208 := by
  have : ∀ l : List Move, (∀ p ∈ l, -1099511627776 ≤ p.change ∧ p.change ≤ 1099511627776) → -(1099511627776 * l.length : Int) ≤ chg l x ∧ chg l x ≤ 1099511627776 * l.length := fun l => by
    induction l with
    | nil => intro _; simp [chg]
    | cons p r ih =>
      intro hl
      have a := ih fun q hq => hl q (by simp [hq])
      have b := hl p (by simp)
      rw [chg_cons]
      simp only [List.length_cons]
      split <;> constructor <;> omega
  have h1 := this (P.take j) fun p hp => h.change p (List.mem_of_mem_take hp)
  have h2 := h.len
  have h3 : (P.take j).length ≤ 8 := by rw [List.length_take]; omega
  constructor <;> omega
theorem ksum_bound {n : Nat} {f : Int → Bool} {x : Int} : ∀ {l : List (List Move)} {t : Int}, (∀ P ∈ l, PartsOk n P) → -(8796093022208 * l.length : Int) ≤ ksum f x t l ∧ ksum f x t l ≤ 8796093022208 * l.length
  | [], _, _ => by simp [ksum]
  | P :: r, t, h => by
    have a := ksum_bound (f := f) (x := x) (l := r) (t := t + 1) fun Q hQ => h Q (by simp [hQ])
    have b := chg_bound (h P (by simp)) P.length x
    rw [List.take_length] at b
    simp only [ksum, List.length_cons]
    split <;> constructor <;> omega
end

end Go.Proofs.Ytfmfgckfeojfcaa
