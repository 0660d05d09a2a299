/- Plain: one transaction over all sites and letters: what is safe always, what is under way behind a calm's start; each letter keeps both. No program. -/
import Derived.Test.YtfmfgckfeojfcaaPlainA
set_option linter.unusedSimpArgs false
set_option linter.unusedVariables false
namespace Go.Proofs.Ytfmfgckfeojfcaa

/-- One transaction, as it stands at one site. -/
structure Sv where
  prom : Option (Int × Int)
  kept : Bool
  drop : Bool
  gran : Option Deal
  opn : Option Deal
def upd (v : Int → Sv) (i : Int) (a : Sv) : Int → Sv := fun x => if x = i then a else v x

/-- Safe in every state: one transaction (its parts P, its coordinator K, whether it was granted) over all sites and letters. -/
structure Safe1 (P : List Move) (K : Int) (C : Prop) (v : Int → Sv) (L : Mail → Prop) : Prop where
  opn : ∀ x d, (v x).opn = some d → x = K ∧ d.parts = P ∧ ¬ C ∧ d.full = false ∧ ∀ y, AL.has y d.done = true → (v y).prom ≠ none
  gran : ∀ x d, (v x).gran = some d → x = K ∧ d.parts = P ∧ C ∧ d.full = false ∧ ∀ y, AL.has y d.done = true → (v y).kept = true
  all : C → ∀ p ∈ P, (v p.site).prom ≠ none ∨ (v p.site).kept = true
  kept : ∀ x, (v x).kept = true → C ∧ ∃ p ∈ P, p.site = x
  prom : ∀ x q, (v x).prom = some q → q.1 = K ∧ (⟨x, q.2⟩ : Move) ∈ P
  pk : ∀ x, (v x).prom ≠ none → (v x).kept = false
  pd : ∀ x, (v x).prom ≠ none → (v x).drop = false
  kd : ∀ x, (v x).kept = true → (v x).drop = false
  granted : C → (v K).gran ≠ none ∨ ∀ p ∈ P, (v p.site).kept = true
  ask : ∀ m, L m → m.kind = 1 → m.src = K ∧ (⟨m.dst, m.n⟩ : Move) ∈ P
  yes : ∀ m, L m → m.kind = 2 → m.dst = K ∧ (∃ p ∈ P, p.site = m.src) ∧ ((v m.src).prom ≠ none ∨ (v m.src).kept = true ∨ ((v m.src).drop = true ∧ ¬ C ∧ (v K).opn = none))
  no : ∀ m, L m → m.kind = 3 → m.dst = K ∧ (v m.src).drop = true
  commit : ∀ m, L m → m.kind = 4 → m.src = K ∧ C ∧ ∃ p ∈ P, p.site = m.dst
  abort : ∀ m, L m → m.kind = 5 → m.src = K ∧ ((¬ C ∧ (v K).opn = none) ∨ (v m.dst).kept = true)
  done : ∀ m, L m → m.kind = 6 → m.dst = K ∧ (v m.src).kept = true
  what : ∀ m, L m → m.kind = 7 → m.dst = K ∧ ∃ p ∈ P, p.site = m.src

/-- A letter of a kind to, or from, a site is under way. -/
def To (L : Mail → Prop) (k x : Int) : Prop := ∃ m, L m ∧ m.kind = k ∧ m.dst = x
def Of (L : Mail → Prop) (k x : Int) : Prop := ∃ m, L m ∧ m.kind = k ∧ m.src = x
theorem To.mono {L L' : Mail → Prop} {k x : Int} (h : To L k x) (hs : ∀ m, L m → L' m) : To L' k x := by obtain ⟨m, h1, h2⟩ := h; exact ⟨m, hs m h1, h2⟩
theorem Of.mono {L L' : Mail → Prop} {k x : Int} (h : Of L k x) (hs : ∀ m, L m → L' m) : Of L' k x := by obtain ⟨m, h1, h2⟩ := h; exact ⟨m, hs m h1, h2⟩
/-- Behind the calm's start: what is under way. -/
structure Live1 (P : List Move) (K : Int) (v : Int → Sv) (L : Mail → Prop) : Prop where
  q1 : ∀ x d, (v x).opn = some d → ∀ p ∈ P, AL.has p.site d.done = false → To L 1 p.site ∨ Of L 2 p.site ∨ Of L 3 p.site
  q2 : ∀ x d, (v x).gran = some d → ∀ p ∈ P, AL.has p.site d.done = false → To L 4 p.site ∨ Of L 6 p.site
  q3 : ∀ x, (v x).prom ≠ none → (v K).opn ≠ none ∨ (v K).gran ≠ none ∨ Of L 7 x ∨ Of L 2 x ∨ To L 4 x ∨ To L 5 x

def re (m : Mail) (k : Int) : Mail := ⟨m.dst, m.src, k, m.tx, 0⟩
def toAll (m : Mail) (k : Int) (ps : List Move) (but : Int → Bool) : List Mail := (ps.filter fun p => !but p.site).map fun p => ⟨m.dst, p.site, k, m.tx, 0⟩

/-- What a site does with a letter: to the transaction at the site, to its stock, and the letters it sends. -/
inductive Hnd (m : Mail) (a : Sv) : Sv → Int → List Mail → Prop
  | askYes : m.kind = 1 → a.prom ≠ none → Hnd m a a 0 [re m 2]
  | askNo : m.kind = 1 → a.prom = none → a.drop = true → Hnd m a a 0 [re m 3]
  | askKept : m.kind = 1 → a.prom = none → a.drop = false → a.kept = true → Hnd m a a 0 []
  | askProm : m.kind = 1 → a.prom = none → a.drop = false → a.kept = false → Hnd m a { a with prom := some (m.src, m.n) } 0 [re m 2]
  | askDrop : m.kind = 1 → a.prom = none → a.drop = false → a.kept = false → Hnd m a { a with drop := true } 0 [re m 3]
  | yesHear (d : Deal) : m.kind = 2 → a.opn = some d → (d.hear m.src).full = false → Hnd m a { a with opn := some (d.hear m.src) } 0 []
  | yesGrant (d : Deal) : m.kind = 2 → a.opn = some d → (d.hear m.src).full = true → Hnd m a { a with opn := none, gran := some ⟨d.parts, []⟩ } 0 (toAll m 4 d.parts nobody)
  | yesLate (d : Deal) : m.kind = 2 → a.opn = none → a.gran = some d → AL.has m.src d.done = true → Hnd m a a 0 []
  | yesAgain (d : Deal) : m.kind = 2 → a.opn = none → a.gran = some d → AL.has m.src d.done = false → Hnd m a a 0 [re m 4]
  | yesDead : m.kind = 2 → a.opn = none → a.gran = none → Hnd m a a 0 [re m 5]
  | noLate : m.kind = 3 → a.opn = none → Hnd m a a 0 []
  | noDrop (d : Deal) : m.kind = 3 → a.opn = some d → Hnd m a { a with opn := none } 0 (toAll m 5 d.parts (fun x => decide (x = m.src)))
  | commit (p : Int × Int) : m.kind = 4 → a.prom = some p → Hnd m a { a with prom := none, kept := true } p.2 [re m 6]
  | commitAgain : m.kind = 4 → a.prom = none → a.kept = true → Hnd m a a 0 [re m 6]
  | commitLate : m.kind = 4 → a.prom = none → a.kept = false → Hnd m a a 0 []
  | abort : m.kind = 5 → a.prom ≠ none → Hnd m a { a with prom := none, drop := true } 0 []
  | abortLate : m.kind = 5 → a.prom = none → Hnd m a a 0 []
  | doneLate : m.kind = 6 → a.gran = none → Hnd m a a 0 []
  | doneAll (d : Deal) : m.kind = 6 → a.gran = some d → (d.hear m.src).full = true → Hnd m a { a with gran := none } 0 []
  | doneHear (d : Deal) : m.kind = 6 → a.gran = some d → (d.hear m.src).full = false → Hnd m a { a with gran := some (d.hear m.src) } 0 []
  | whatCommit : m.kind = 7 → a.gran ≠ none → Hnd m a a 0 [re m 4]
  | whatOpen : m.kind = 7 → a.gran = none → a.opn ≠ none → Hnd m a a 0 []
  | whatAbort : m.kind = 7 → a.gran = none → a.opn = none → Hnd m a a 0 [re m 5]

theorem Safe1.mono {P : List Move} {K : Int} {C : Prop} {v : Int → Sv} {L L' : Mail → Prop} (h : Safe1 P K C v L) (hs : ∀ m, L' m → L m) : Safe1 P K C v L' :=
  ⟨h.opn, h.gran, h.all, h.kept, h.prom, h.pk, h.pd, h.kd, h.granted, fun m hm => h.ask m (hs m hm), fun m hm => h.yes m (hs m hm), fun m hm => h.no m (hs m hm), fun m hm => h.commit m (hs m hm), fun m hm => h.abort m (hs m hm), fun m hm => h.done m (hs m hm), fun m hm => h.what m (hs m hm)⟩
theorem Live1.mono {P : List Move} {K : Int} {v : Int → Sv} {L L' : Mail → Prop} (h : Live1 P K v L) (hs : ∀ m, L m → L' m) : Live1 P K v L' := by
  have h1 : ∀ k x, To L k x → To L' k x := fun k x h => h.mono hs
  have h2 : ∀ k x, Of L k x → Of L' k x := fun k x h => h.mono hs
  obtain ⟨q1, q2, q3⟩ := h
  constructor <;> grind

/-- A deal that is full has heard all its sites. -/
theorem sub_length {l m : List Int} (hl : l.Nodup) (hs : ∀ x ∈ l, x ∈ m) : l.length ≤ m.length := by
  induction l generalizing m with
  | nil => simp
  | cons a r ih =>
    obtain ⟨h1, h2⟩ := List.nodup_cons.1 hl
    have ha := hs a (by simp)
    have h3 := ih (m := m.erase a) h2 (fun x hx => by
      have hne : x ≠ a := fun e => h1 (e ▸ hx)
      exact (List.mem_erase_of_ne hne).2 (hs x (by simp [hx])))
    have h4 := List.length_erase_of_mem ha
    have h5 := List.length_pos_of_mem ha
    simp only [List.length_cons]; omega
theorem all_of_length {l m : List Int} (hl : l.Nodup) (hs : ∀ x ∈ l, x ∈ m) (hlen : m.length ≤ l.length) : ∀ x ∈ m, x ∈ l := by
  intro x hx
  refine Classical.byContradiction fun hn => ?_
  have h1 := sub_length (l := x :: l) (m := m) (List.nodup_cons.2 ⟨hn, hl⟩) (fun y hy => by rcases List.mem_cons.1 hy with rfl | hy; exact hx; exact hs y hy)
  simp only [List.length_cons] at h1; omega
theorem Deal.Ok.full_all {n : Nat} {d : Deal} (h : d.Ok n) (hf : d.full = true) : ∀ p ∈ d.parts, AL.has p.site d.done = true := by
  intro p hp
  unfold Deal.full at hf
  have hf := of_decide_eq_true hf
  have h1 := all_of_length (l := AL.keys d.done) (m := d.parts.map (·.site)) (rising_nodup h.doneR) (fun x hx => by
    obtain ⟨q, hq, rfl⟩ := List.mem_map.1 hx
    have := h.done q hq
    unfold Deal.has at this
    obtain ⟨p, hp, e⟩ := List.any_eq_true.1 this
    exact List.mem_map.2 ⟨p, hp, of_decide_eq_true e⟩) (by simp [AL.keys]; omega) p.site (List.mem_map.2 ⟨p, hp, rfl⟩)
  obtain ⟨q, hq, e⟩ := List.mem_map.1 h1
  exact AL.has_iff.2 ⟨q, hq, e⟩
theorem Deal.Ok.not_full {n : Nat} {d : Deal} (h : d.Ok n) (hf : d.full = false) : ∃ p ∈ d.parts, AL.has p.site d.done = false := by
  refine Classical.byContradiction fun hn => ?_
  have hall : ∀ p ∈ d.parts, AL.has p.site d.done = true := fun p hp => by
    cases e : AL.has p.site d.done
    · exact absurd ⟨p, hp, e⟩ hn
    · rfl
  have h1 := sub_length (l := d.parts.map (·.site)) (m := AL.keys d.done) h.nodup (fun x hx => by
    obtain ⟨p, hp, rfl⟩ := List.mem_map.1 hx
    obtain ⟨q, hq, e⟩ := AL.has_iff.1 (hall p hp)
    exact List.mem_map.2 ⟨q, hq, e⟩)
  have h2 := sub_length (l := AL.keys d.done) (m := d.parts.map (·.site)) (rising_nodup h.doneR) (fun x hx => by
    obtain ⟨q, hq, rfl⟩ := List.mem_map.1 hx
    have := h.done q hq
    unfold Deal.has at this
    obtain ⟨p, hp, e⟩ := List.any_eq_true.1 this
    exact List.mem_map.2 ⟨p, hp, of_decide_eq_true e⟩)
  unfold Deal.full at hf
  have hf := of_decide_eq_false hf
  simp [AL.keys] at h1 h2
  omega
theorem Deal.Ok.hear_done {n : Nat} {d : Deal} (h : d.Ok n) (x y : Int) : AL.has y (d.hear x).done = true ↔ AL.has y d.done = true ∨ (y = x ∧ d.has x = true) := by
  unfold Deal.hear
  split
  · rename_i hx
    simp only [AL.has_iff, AL.mem_put, hx, and_true]
    constructor
    · rintro ⟨p, rfl | ⟨hp, _⟩, e⟩
      · exact .inr e.symm
      · exact .inl ⟨p, hp, e⟩
    · rintro (⟨p, hp, e⟩ | rfl)
      · by_cases hxy : p.1 = x
        · exact ⟨(x, ()), .inl rfl, by rw [← e, hxy]⟩
        · exact ⟨p, .inr ⟨hp, hxy⟩, e⟩
      · exact ⟨(y, ()), .inl rfl, rfl⟩
  · rename_i hx
    simp [hx]
theorem Deal.has_iff {d : Deal} {x : Int} : d.has x = true ↔ ∃ p ∈ d.parts, p.site = x := by simp [Deal.has]
theorem Deal.hear_parts (d : Deal) (x : Int) : (d.hear x).parts = d.parts := by unfold Deal.hear; split <;> rfl
theorem mem_toAll {m y : Mail} {k : Int} {ps : List Move} {but : Int → Bool} : y ∈ toAll m k ps but ↔ ∃ p ∈ ps, but p.site = false ∧ y = ⟨m.dst, p.site, k, m.tx, 0⟩ := by
  simp only [toAll, List.mem_map, List.mem_filter, Bool.not_eq_true']
  constructor
  · rintro ⟨p, ⟨h1, h2⟩, h3⟩; exact ⟨p, h1, h2, h3.symm⟩
  · rintro ⟨p, h1, h2, h3⟩; exact ⟨p, ⟨h1, h2⟩, h3.symm⟩

section
variable {P : List Move} {K : Int} {C : Prop} {v : Int → Sv} {L : Mail → Prop} {m : Mail} {a : Sv} {δ : Int} {new : List Mail} {n : Nat}
set_option maxHeartbeats 4000000 in
theorem Safe1.step (h : Safe1 P K C v L) (hL : L m) (hdo : ∀ x d, (v x).opn = some d ∨ (v x).gran = some d → d.Ok n) (hH : Hnd m (v m.dst) a δ new) : ∃ C', Safe1 P K C' (upd v m.dst a) (fun y => L y ∨ y ∈ new) := by
  have hear : ∀ x d, (v x).opn = some d ∨ (v x).gran = some d → ∀ y, AL.has y (d.hear m.src).done = true ↔ AL.has y d.done = true ∨ (y = m.src ∧ d.has m.src = true) := fun x d hd y => (hdo x d hd).hear_done m.src y
  have full : ∀ x d, (v x).opn = some d ∨ (v x).gran = some d → (d.hear m.src).full = true → ∀ p ∈ d.parts, AL.has p.site (d.hear m.src).done = true := fun x d hd hf p hp => ((hdo x d hd).hear m.src).full_all hf p (by rw [Deal.hear_parts]; exact hp)
  have hne : ∀ x d, (v x).opn = some d ∨ (v x).gran = some d → d.parts ≠ [] := fun x d hd => (hdo x d hd).ne
  obtain ⟨h1, h2, h3, h4, h5, h6, h7, h8, h9, h10, h11, h12, h13, h14, h15, h16⟩ := h
  have g1 : ∀ x, (v x).gran ≠ none → x = K ∧ C := fun x hx => by
    obtain ⟨d, hd⟩ := Option.ne_none_iff_exists'.1 hx
    exact ⟨(h2 x d hd).1, (h2 x d hd).2.2.1⟩
  have e0 : ∀ y, AL.has y ([] : List (Int × Unit)) = false := fun y => rfl
  cases hH
  case askProm k0 k1 k2 k3 =>
    have := h10 m hL k0
    clear hear full hne hdo
    refine ⟨C, ?_⟩
    constructor <;> simp only [upd, re, List.mem_singleton] <;> grind
  case askDrop k0 k1 k2 k3 =>
    clear hear full hne hdo
    refine ⟨C, ?_⟩
    constructor <;> simp only [upd, re, List.mem_singleton] <;> grind
  case yesHear d k0 k1 k2 =>
    have e1 := hear _ d (.inl k1)
    have e2 := Deal.hear_parts d m.src
    have e3 := h11 m hL k0
    have e4 := h1 _ d k1
    clear hear full hne hdo
    refine ⟨C, ?_⟩
    constructor <;> simp only [upd, re, List.not_mem_nil, or_false] <;> grind
  case yesGrant d k0 k1 k2 =>
    have e1 := hear _ d (.inl k1)
    have e2 := full _ d (.inl k1) k2
    have e3 := h11 m hL k0
    have e4 := h1 _ d k1
    have e5 : Deal.full ⟨d.parts, []⟩ = false := by have := hne _ d (.inl k1); simp [Deal.full]; exact fun h => this (List.length_eq_zero_iff.1 h.symm)
    clear hear full hne hdo
    refine ⟨True, ?_⟩
    constructor <;> simp only [upd, mem_toAll, nobody] <;> grind
  case noDrop d k0 k1 =>
    have e4 := h1 _ d k1
    clear hear full hne hdo
    refine ⟨C, ?_⟩
    constructor <;> simp only [upd, mem_toAll] <;> grind
  case commit p k0 k1 =>
    have e3 := h13 m hL k0
    clear hear full hne hdo
    refine ⟨C, ?_⟩
    constructor <;> simp only [upd, re, List.mem_singleton] <;> grind
  case abort k0 k1 =>
    have e3 := h14 m hL k0
    clear hear full hne hdo
    refine ⟨C, ?_⟩
    constructor <;> simp only [upd, re, List.not_mem_nil, or_false] <;> grind
  case doneAll d k0 k1 k2 =>
    have e1 := hear _ d (.inr k1)
    have e2 := full _ d (.inr k1) k2
    have e3 := h15 m hL k0
    have e4 := h2 _ d k1
    clear hear full hne hdo
    refine ⟨C, ?_⟩
    constructor <;> simp only [upd, re, List.not_mem_nil, or_false] <;> grind
  case doneHear d k0 k1 k2 =>
    have e1 := hear _ d (.inr k1)
    have e2 := Deal.hear_parts d m.src
    have e3 := h15 m hL k0
    have e4 := h2 _ d k1
    clear hear full hne hdo
    refine ⟨C, ?_⟩
    constructor <;> simp only [upd, re, List.not_mem_nil, or_false] <;> grind
  all_goals
    clear hear full hne hdo
    refine ⟨C, ?_⟩
    constructor <;> simp only [upd, re, List.mem_singleton, List.not_mem_nil, or_false] <;> grind
end

section
variable {P : List Move} {K : Int} {C : Prop} {v : Int → Sv} {L L0 : Mail → Prop} {m : Mail} {a : Sv} {δ : Int} {new : List Mail} {n : Nat}
set_option maxHeartbeats 4000000 in
theorem Live1.step (h : Safe1 P K C v L) (g : Live1 P K v L) (hL : L m) (hL0 : ∀ y, L y → y = m ∨ L0 y) (hdo : ∀ x d, (v x).opn = some d ∨ (v x).gran = some d → d.Ok n) (hH : Hnd m (v m.dst) a δ new) : Live1 P K (upd v m.dst a) (fun y => L0 y ∨ y ∈ new) := by
  have hear : ∀ x d, (v x).opn = some d ∨ (v x).gran = some d → ∀ y, AL.has y (d.hear m.src).done = true ↔ AL.has y d.done = true ∨ (y = m.src ∧ d.has m.src = true) := fun x d hd y => (hdo x d hd).hear_done m.src y
  have full : ∀ x d, (v x).opn = some d ∨ (v x).gran = some d → (d.hear m.src).full = true → ∀ p ∈ d.parts, AL.has p.site (d.hear m.src).done = true := fun x d hd hf p hp => ((hdo x d hd).hear m.src).full_all hf p (by rw [Deal.hear_parts]; exact hp)
  have hhas : ∀ x d, (v x).opn = some d ∨ (v x).gran = some d → ∀ p ∈ P, d.has p.site = true := fun x d hd p hp => by
    have e : d.parts = P := by rcases hd with hd | hd; exact (h.opn x d hd).2.1; exact (h.gran x d hd).2.1
    exact Deal.has_iff.2 ⟨p, by rw [e]; exact hp, rfl⟩
  obtain ⟨h1, h2, h3, h4, h5, h6, h7, h8, h9, h10, h11, h12, h13, h14, h15, h16⟩ := h
  obtain ⟨q1, q2, q3⟩ := g
  have g1 : ∀ x, (v x).gran ≠ none → x = K ∧ C := fun x hx => by
    obtain ⟨d, hd⟩ := Option.ne_none_iff_exists'.1 hx
    exact ⟨(h2 x d hd).1, (h2 x d hd).2.2.1⟩
  have g2 : ∀ x, (v x).opn ≠ none → x = K ∧ ¬ C := fun x hx => by
    obtain ⟨d, hd⟩ := Option.ne_none_iff_exists'.1 hx
    exact ⟨(h1 x d hd).1, (h1 x d hd).2.2.1⟩
  have e0 : ∀ y, AL.has y ([] : List (Int × Unit)) = false := fun y => rfl
  have s1 : ∀ x, (v x).prom ≠ none → ∃ p ∈ P, p.site = x := fun x hx => by
    obtain ⟨q, hq⟩ := Option.ne_none_iff_exists'.1 hx
    exact ⟨_, (h5 x q hq).2, rfl⟩
  have tT : ∀ k x, To L k x → (m.kind = k ∧ m.dst = x) ∨ To (fun y => L0 y ∨ y ∈ new) k x := fun k x ⟨y, hy, e⟩ => by
    rcases hL0 y hy with rfl | hy
    · exact .inl e
    · exact .inr ⟨y, .inl hy, e⟩
  have tO : ∀ k x, Of L k x → (m.kind = k ∧ m.src = x) ∨ Of (fun y => L0 y ∨ y ∈ new) k x := fun k x ⟨y, hy, e⟩ => by
    rcases hL0 y hy with rfl | hy
    · exact .inl e
    · exact .inr ⟨y, .inl hy, e⟩
  have nT : ∀ y, y ∈ new → To (fun y => L0 y ∨ y ∈ new) y.kind y.dst := fun y hy => ⟨y, .inr hy, rfl, rfl⟩
  have nO : ∀ y, y ∈ new → Of (fun y => L0 y ∨ y ∈ new) y.kind y.src := fun y hy => ⟨y, .inr hy, rfl, rfl⟩
  clear hL0
  have f10 := h10 m hL
  have f11 := h11 m hL
  have f12 := h12 m hL
  have f13 := h13 m hL
  have f14 := h14 m hL
  have f15 := h15 m hL
  have f16 := h16 m hL
  clear h10 h11 h12 h13 h14 h15 h16 hdo hL
  generalize hT : To (fun y => L0 y ∨ y ∈ new) = T' at *
  generalize hO : Of (fun y => L0 y ∨ y ∈ new) = O' at *
  cases hH
  case yesHear d k0 k1 k2 =>
    have e1 := hear _ d (.inl k1)
    have e2 := Deal.hear_parts d m.src
    have e4 := h1 _ d k1
    have e5 := hhas _ d (.inl k1)
    clear hear full hhas nT nO
    constructor <;> simp only [upd, hT, hO] <;> grind
  case yesGrant d k0 k1 k2 =>
    have e4 := h1 _ d k1
    have n1 : ∀ p ∈ d.parts, T' 4 p.site := fun p hp => nT ⟨m.dst, p.site, 4, m.tx, 0⟩ (mem_toAll.2 ⟨p, hp, rfl, rfl⟩)
    clear hear full hhas nT nO
    constructor <;> simp only [upd, hT, hO] <;> grind
  case yesLate d k0 k1 k2 k3 =>
    have e4 := h2 _ d k2
    clear hear full hhas nT nO
    constructor <;> simp only [upd, hT, hO] <;> grind
  case yesAgain d k0 k1 k2 k3 =>
    have e4 := h2 _ d k2
    clear hear full hhas nT nO
    constructor <;> simp only [upd, hT, hO] <;> grind
  case noDrop d k0 k1 =>
    have e4 := h1 _ d k1
    have n1 : ∀ p ∈ d.parts, p.site ≠ m.src → T' 5 p.site := fun p hp hn => nT ⟨m.dst, p.site, 5, m.tx, 0⟩ (mem_toAll.2 ⟨p, hp, by simpa using hn, rfl⟩)
    clear hear full hhas nT nO
    constructor <;> simp only [upd, hT, hO] <;> grind
  case doneAll d k0 k1 k2 =>
    have e1 := hear _ d (.inr k1)
    have e2 := full _ d (.inr k1) k2
    have e4 := h2 _ d k1
    clear hear full hhas nT nO
    constructor <;> simp only [upd, hT, hO] <;> grind
  case doneHear d k0 k1 k2 =>
    have e1 := hear _ d (.inr k1)
    have e2 := Deal.hear_parts d m.src
    have e4 := h2 _ d k1
    have e5 := hhas _ d (.inr k1)
    clear hear full hhas nT nO
    constructor <;> simp only [upd, hT, hO] <;> grind
  all_goals
    clear hear full hhas
    simp only [List.mem_singleton, List.not_mem_nil, forall_eq, re, false_imp_iff, implies_true] at nT nO
    constructor <;> simp only [upd, hT, hO] <;> grind
end

end Go.Proofs.Ytfmfgckfeojfcaa
