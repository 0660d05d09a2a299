/- Plain: every call keeps a net's history. -/
import Derived.Test.YtfmfgckfeojfcaaPlainC
set_option linter.unusedSimpArgs false
set_option linter.unusedVariables false
namespace Go.Proofs.Ytfmfgckfeojfcaa

/-- A letter that may be under way. -/
def LetterOk (P : List Move) (K : Int) (C : Prop) (v : Int → Sv) (m : Mail) : Prop :=
  (m.kind = 1 ∧ m.src = K ∧ (⟨m.dst, m.n⟩ : Move) ∈ P) ∨ (m.kind = 4 ∧ m.src = K ∧ C ∧ ∃ p ∈ P, p.site = m.dst) ∨ (m.kind = 5 ∧ m.src = K ∧ ¬ C ∧ (v K).opn = none) ∨ (m.kind = 7 ∧ m.dst = K ∧ ∃ p ∈ P, p.site = m.src)
theorem Safe1.letters {P : List Move} {K : Int} {C : Prop} {v : Int → Sv} {L L' : Mail → Prop} (h : Safe1 P K C v L) (hs : ∀ m, L' m → L m ∨ LetterOk P K C v m) : Safe1 P K C v L' := by
  obtain ⟨h1, h2, h3, h4, h5, h6, h7, h8, h9, h10, h11, h12, h13, h14, h15, h16⟩ := h
  unfold LetterOk at hs
  refine ⟨h1, h2, h3, h4, h5, h6, h7, h8, h9, fun m hm k => ?_, fun m hm k => ?_, fun m hm k => ?_, fun m hm k => ?_, fun m hm k => ?_, fun m hm k => ?_, fun m hm k => ?_⟩ <;>
    rcases hs m hm with e | ⟨e, e'⟩ | ⟨e, e'⟩ | ⟨e, e'⟩ | ⟨e, e'⟩ <;> first | exact absurd (k.symm.trans e) (by decide) | skip
  · exact h10 m e k
  · exact e'
  · exact h11 m e k
  · exact h12 m e k
  · exact h13 m e k
  · exact e'
  · exact h14 m e k
  · exact ⟨e'.1, .inl e'.2⟩
  · exact h15 m e k
  · exact h16 m e k
  · exact e'
set_option maxHeartbeats 1000000 in
theorem Safe1.close {P : List Move} {K : Int} {C : Prop} {v : Int → Sv} {L : Mail → Prop} (h : Safe1 P K C v L) (i : Int) : Safe1 P K C (upd v i { v i with opn := none }) L := by
  obtain ⟨h1, h2, h3, h4, h5, h6, h7, h8, h9, h10, h11, h12, h13, h14, h15, h16⟩ := h
  constructor <;> (try simp only [upd]) <;> grind

section
variable {N : Net} {i : Nat} {s : Site} {S0 : List Int} {all : List (List Move)} {T : Int → Prop}
theorem Inv.lose (h : Inv Never S0 all N) (k : Int) : Inv Never S0 all (N.lose k).1 := by
  have hok := h.ok.lose k
  unfold Net.lose at hok ⊢
  split
  · rename_i hk
    rw [if_pos hk] at hok
    refine ⟨hok, h.len, h.cnt, h.val, fun t P ht => ?_, h.stock⟩
    obtain ⟨K, C, h1, _⟩ := h.tx t P ht
    exact ⟨K, C, h1.mono fun y hy => ⟨List.mem_of_mem_eraseIdx hy.1, hy.2⟩, LiveT.never⟩
  · exact h
theorem isLetter_get {k : Int} (h : N.isLetter k = true) : ∃ m, N.mail[k.toNat]? = some m ∧ 0 ≤ k ∧ k < N.mail.length := by
  unfold Net.isLetter at h
  simp only [Bool.and_eq_true, decide_eq_true_eq] at h
  exact ⟨_, List.getElem?_eq_getElem (by omega), h⟩
theorem Inv.deliver (h : Inv Never S0 all N) (k : Int) : Inv Never S0 all (N.deliver k).1 := by
  unfold Net.deliver
  split
  · rename_i hk
    obtain ⟨m, hm, _⟩ := isLetter_get hk
    rw [hm]
    exact (h.handle (List.mem_of_getElem? hm) (l0 := N.mail.eraseIdx k.toNat) (fun y hy => List.mem_of_mem_eraseIdx hy) (Nat.le_trans (List.length_eraseIdx_le _ _) h.ok.mail) (.inl fun _ hx => hx)).1
  · exact h
theorem Inv.repeat_ (h : Inv Never S0 all N) (k : Int) : Inv Never S0 all (N.repeat_ k).1 := by
  unfold Net.repeat_
  split
  · rename_i hk
    obtain ⟨m, hm, _⟩ := isLetter_get hk
    rw [hm]
    exact (h.handle (List.mem_of_getElem? hm) (l0 := N.mail) (fun y hy => hy) h.ok.mail (.inl fun _ hx => hx)).1
  · exact h

/-- One site turns, but for its stock and what it kept; letters are sent. -/
theorem Inv.site (h : Inv T S0 all N) {T' : Int → Prop} (hs : N.sites[i]? = some s) {s' : Site} {new : List Mail} (hok : ((N.setSite i s').post new).Ok) (hst : s'.stock = s.stock) (hk : ∀ tx, (s'.sv tx).kept = (s.sv tx).kept)
    (htx : ∀ (t : Nat) (P : List Move) K C, all[t]? = some P → Safe1 P K C (N.tv (t + 1)) (fun m => m ∈ N.mail ∧ m.tx = t + 1) → LiveT T P K (N.tv (t + 1)) (fun m => m ∈ N.mail ∧ m.tx = t + 1) →
      Safe1 P K C (upd (N.tv (t + 1)) i (s'.sv (t + 1))) (fun m => (m ∈ N.mail ∨ m ∈ new) ∧ m.tx = t + 1) ∧ LiveT T' P K (upd (N.tv (t + 1)) i (s'.sv (t + 1))) (fun m => m ∈ (N.post new).mail ∧ m.tx = t + 1)) : Inv T' S0 all ((N.setSite i s').post new) := by
  have etv : ∀ tx, ((N.setSite i s').post new).tv tx = upd (N.tv tx) i (s'.sv tx) := fun tx => setSite_tv hs s' tx
  refine ⟨hok, ?_, h.cnt, fun P hP => ?_, fun t P ht => ?_, fun j x hj => ?_⟩
  · show (N.sites.set i s').length = _; rw [List.length_set]; exact h.len
  · show PartsOk (N.sites.set i s').length P; rw [List.length_set]; exact h.val P hP
  · obtain ⟨K, C, h1, h2⟩ := h.tx t P ht
    obtain ⟨g1, g2⟩ := htx t P K C ht h1 h2
    rw [etv]
    exact ⟨K, C, g1.mono fun m hm => ⟨post_mem hm.1, hm.2⟩, g2⟩
  · have h1 := h.stock j x hj
    have e1 : ((N.setSite i s').post new).stk j = N.stk j := by
      show (N.setSite i s').stk j = _
      rw [setSite_stk hs]
      split
      · rename_i e; rw [e, stk_at hs, hst]
      · rfl
    rw [e1, h1]
    congr 1
    refine ksum_congr fun u _ _ => ?_
    rw [etv]
    unfold upd
    split
    · rename_i e; rw [e, tv_at hs, hk]
    · rfl
theorem Inv.crash (h : Inv Never S0 all N) (k : Int) : Inv Never S0 all (N.crash k).1 := by
  have hok := h.ok.crash k
  unfold Net.crash at hok ⊢
  split
  · exact h
  · rename_i s e hA
    obtain ⟨i, rfl, hs, hd, _, hi⟩ := awake_some hA
    rw [hA] at hok
    have hpost : (N.setSite i { s with down := true, opened := [] }).post [] = N.setSite i { s with down := true, opened := [] } := post_nil h.ok.mail
    have hi' : (i : Int).toNat = i := by omega
    dsimp only at hok ⊢
    rw [hi', ← hpost] at hok ⊢
    refine h.site hs hok rfl (fun _ => rfl) fun t P K C ht h1 _ => ⟨?_, LiveT.never⟩
    have := h1.close i
    rw [tv_at hs] at this
    exact this.mono fun m hm => ⟨by simpa using hm.1, hm.2⟩
theorem Inv.start (h : Inv Never S0 all N) (k : Int) : Inv Never S0 all (N.start k).1 := by
  have hok := h.ok.start k
  unfold Net.start at hok ⊢
  split
  · rename_i hk
    rw [if_pos hk] at hok
    split
    · exact h
    · rename_i s hs
      rw [hs] at hok
      dsimp only at hok
      split
      · rename_i hd
        rw [if_pos hd] at hok
        dsimp only at hok ⊢
        have hpost : (N.setSite k.toNat { s with down := false }).post [] = N.setSite k.toNat { s with down := false } := post_nil h.ok.mail
        rw [← hpost] at hok ⊢
        refine h.site hs hok rfl (fun _ => rfl) fun t P K C ht h1 _ => ⟨?_, LiveT.never⟩
        have e : Site.sv { s with down := false } (t + 1) = s.sv (t + 1) := rfl
        rw [e, upd_eq (tv_at hs (t + 1)).symm]
        exact h1.mono fun m hm => ⟨by simpa using hm.1, hm.2⟩
      · exact h
  · exact h
theorem Inv.cancel (h : Inv Never S0 all N) (k tx : Int) : Inv Never S0 all (N.cancel k tx).1 := by
  have hok := h.ok.cancel k tx
  unfold Net.cancel at hok ⊢
  split
  · exact h
  · rename_i s e hA
    obtain ⟨i, rfl, hs, hd, _, hi⟩ := awake_some hA
    rw [hA] at hok
    dsimp only at hok ⊢
    split
    · exact h
    · rename_i d hd
      rw [hd] at hok
      dsimp only at hok ⊢
      have hi' : (i : Int).toNat = i := by omega
      have hpost := tell_post (N := N.setSite i { s with opened := AL.del tx s.opened }) h.ok.mail i 5 tx d.parts nobody
      rw [hi', hpost] at hok ⊢
      have hoR := (h.ok.at hs).dealR false
      refine h.site hs hok rfl (fun _ => rfl) fun t P K C ht h1 _ => ⟨?_, LiveT.never⟩
      by_cases htx : (t : Int) + 1 = tx
      · subst htx
        have h2 := h1.close i
        have h3 := h1.opn i d (by rw [tv_at hs]; exact hd)
        have e2 : Site.sv { s with opened := AL.del ((t : Int) + 1) s.opened } (t + 1) = { N.tv (t + 1) i with opn := none } := by
          rw [tv_at hs]; simp [Site.sv, AL.get?_del_same]
        rw [e2]
        refine h2.letters fun m hm => ?_
        rcases hm with ⟨hm | hm, e3⟩
        · exact .inl ⟨hm, e3⟩
        · refine .inr (.inr (.inr (.inl ?_)))
          simp only [tellList, List.mem_map] at hm
          obtain ⟨p, _, rfl⟩ := hm
          exact ⟨rfl, h3.1, h3.2.2.1, by rw [← h3.1]; simp [upd]⟩
      · have e2 : Site.sv { s with opened := AL.del tx s.opened } (t + 1) = s.sv (t + 1) := by simp only [Site.sv, AL.get?_del_other htx]
        rw [e2, upd_eq (tv_at hs (t + 1)).symm]
        refine h1.mono fun m hm => ⟨?_, hm.2⟩
        rcases hm.1 with h2 | h2
        · exact h2
        · simp only [tellList, List.mem_map] at h2
          obtain ⟨p, _, rfl⟩ := h2
          exact absurd hm.2.symm htx

/-! ### Tick -/
def tickList (s : Site) (k : Int) : List Mail :=
  s.opened.flatMap (fun p => tellList k 1 p.1 p.2.parts fun x => AL.has x p.2.done) ++ (s.granted.flatMap (fun p => tellList k 4 p.1 p.2.parts fun x => AL.has x p.2.done) ++ s.promised.map fun p => ⟨k, p.2.1, 7, p.1, 0⟩)
theorem tickDeal_post (k kind : Int) : ∀ (l : List (Int × Deal)) {N : Net}, N.mail.length ≤ 1024 → l.foldl (Net.tickDeal k kind) N = N.post (l.flatMap fun p => tellList k kind p.1 p.2.parts fun x => AL.has x p.2.done)
  | [], N, h => (post_nil h).symm
  | p :: r, N, h => by
    rw [List.foldl_cons]
    have e : Net.tickDeal k kind N p = N.post (tellList k kind p.1 p.2.parts fun x => AL.has x p.2.done) := tell_post h _ _ _ _ _
    rw [e, tickDeal_post k kind r (post_length _ _), post_post, List.flatMap_cons]
theorem tickProm_post (k : Int) : ∀ (l : List (Int × (Int × Int))) {N : Net}, N.mail.length ≤ 1024 → l.foldl (Net.tickProm k) N = N.post (l.map fun p => ⟨k, p.2.1, 7, p.1, 0⟩)
  | [], N, h => (post_nil h).symm
  | p :: r, N, h => by
    rw [List.foldl_cons]
    have e : Net.tickProm k N p = N.post [⟨k, p.2.1, 7, p.1, 0⟩] := send_post h _ _ _ _ _
    rw [e, tickProm_post k r (post_length _ _), post_post, List.map_cons]; rfl
theorem tick_post (h : N.Ok) (hs : N.sites[i]? = some s) (hd : s.down = false) : N.tick i = (N.post (tickList s i), 0) := by
  have hA : N.awake i = (some s, 0) := by
    unfold Net.awake Net.isSite
    have := siteLt hs
    rw [if_pos (by simp; omega)]
    have e : (i : Int).toNat = i := by omega
    rw [e, hs]
    simp [hd]
  unfold Net.tick
  rw [hA]
  dsimp only
  rw [tickDeal_post i 1 s.opened h.mail, tickDeal_post i 4 s.granted (post_length _ _), post_post, tickProm_post i s.promised (post_length _ _), post_post, List.append_assoc]
  rfl
theorem mem_tellList {src kind tx : Int} {ps : List Move} {but : Int → Bool} {y : Mail} : y ∈ tellList src kind tx ps but ↔ ∃ p ∈ ps, but p.site = false ∧ y = ⟨src, p.site, kind, tx, if kind = 1 then p.change else 0⟩ := by
  simp only [tellList, List.mem_map, List.mem_filter, Bool.not_eq_true']
  constructor
  · rintro ⟨p, ⟨h1, h2⟩, h3⟩; exact ⟨p, h1, h2, h3.symm⟩
  · rintro ⟨p, h1, h2, h3⟩; exact ⟨p, ⟨h1, h2⟩, h3.symm⟩
theorem mem_tickList {k : Int} {y : Mail} : y ∈ tickList s k ↔ (∃ q ∈ s.opened, ∃ p ∈ q.2.parts, AL.has p.site q.2.done = false ∧ y = ⟨k, p.site, 1, q.1, p.change⟩) ∨ (∃ q ∈ s.granted, ∃ p ∈ q.2.parts, AL.has p.site q.2.done = false ∧ y = ⟨k, p.site, 4, q.1, 0⟩) ∨ ∃ q ∈ s.promised, y = ⟨k, q.2.1, 7, q.1, 0⟩ := by
  simp only [tickList, List.mem_append, List.mem_flatMap, mem_tellList, List.mem_map]
  constructor
  · rintro (⟨q, h1, p, h2, h3, h4⟩ | ⟨q, h1, p, h2, h3, h4⟩ | ⟨q, h1, h2⟩)
    · exact .inl ⟨q, h1, p, h2, h3, by simpa using h4⟩
    · exact .inr (.inl ⟨q, h1, p, h2, h3, by simpa using h4⟩)
    · exact .inr (.inr ⟨q, h1, h2.symm⟩)
  · rintro (⟨q, h1, p, h2, h3, h4⟩ | ⟨q, h1, p, h2, h3, h4⟩ | ⟨q, h1, h2⟩)
    · exact .inl ⟨q, h1, p, h2, h3, by simpa using h4⟩
    · exact .inr (.inl ⟨q, h1, p, h2, h3, by simpa using h4⟩)
    · exact .inr (.inr ⟨q, h1, h2.symm⟩)
theorem Inv.tickAt (h : Inv T S0 all N) {T' : Int → Prop} (hs : N.sites[i]? = some s) (hd : s.down = false) (hT : (∀ x, ¬ T' x) ∨ ((∀ x, T' x ↔ T x ∨ x = i) ∧ (N.tick i).1.mail.length < 1024)) : Inv T' S0 all (N.tick i).1 := by
  have hok := h.ok.tick i
  have ho := h.ok.at hs
  have hpR := ho.promR
  have hgR := ho.dealR true
  have hoR := ho.dealR false
  simp only [Site.deals, if_true, Bool.false_eq_true, if_false] at hgR hoR
  rw [tick_post h.ok hs hd] at hok hT ⊢
  dsimp only at hok hT ⊢
  rw [← setSite_idem hs] at hok ⊢
  refine h.site hs hok rfl (fun _ => rfl) fun t P K C ht h1 h2 => ?_
  rw [upd_eq (tv_at hs (t + 1)).symm]
  constructor
  · refine h1.letters fun m hm => ?_
    rcases hm with ⟨hm | hm, e3⟩
    · exact .inl ⟨hm, e3⟩
    · right
      rcases mem_tickList.1 hm with ⟨q, a1, p, a2, a3, rfl⟩ | ⟨q, a1, p, a2, a3, rfl⟩ | ⟨q, a1, rfl⟩
      · have e4 : q.1 = (t : Int) + 1 := e3
        have h3 := h1.opn i q.2 (by rw [tv_at hs]; exact AL.get?_of_mem (rising_nodup hoR) (by rw [← e4]; exact a1))
        exact .inl ⟨rfl, h3.1, by rw [← h3.2.1]; exact a2⟩
      · have e4 : q.1 = (t : Int) + 1 := e3
        have h3 := h1.gran i q.2 (by rw [tv_at hs]; exact AL.get?_of_mem (rising_nodup hgR) (by rw [← e4]; exact a1))
        exact .inr (.inl ⟨rfl, h3.1, h3.2.2.1, p, by rw [← h3.2.1]; exact a2, rfl⟩)
      · have e4 : q.1 = (t : Int) + 1 := e3
        have h3 := h1.prom i q.2 (by rw [tv_at hs]; exact AL.get?_of_mem (rising_nodup hpR) (by rw [← e4]; exact a1))
        exact .inr (.inr (.inr ⟨rfl, h3.1, _, h3.2, rfl⟩))
  · rcases hT with hT | ⟨hT1, hT2⟩
    · exact ⟨fun x d hx => (hT x hx).elim, fun x d hx => (hT x hx).elim, fun x hx => (hT x hx).elim⟩
    · rw [post_all hT2]
      have mT : ∀ k x, To (fun m => m ∈ N.mail ∧ m.tx = (t : Int) + 1) k x → To (fun m => m ∈ N.mail ++ tickList s i ∧ m.tx = (t : Int) + 1) k x := fun k x hx => hx.mono fun m hm => ⟨List.mem_append.2 (.inl hm.1), hm.2⟩
      have mO : ∀ k x, Of (fun m => m ∈ N.mail ∧ m.tx = (t : Int) + 1) k x → Of (fun m => m ∈ N.mail ++ tickList s i ∧ m.tx = (t : Int) + 1) k x := fun k x hx => hx.mono fun m hm => ⟨List.mem_append.2 (.inl hm.1), hm.2⟩
      refine ⟨fun x d hx hd p hp hn => ?_, fun x d hx hd p hp hn => ?_, fun x hx hp => ?_⟩
      · rcases (hT1 x).1 hx with hx | rfl
        · rcases h2.q1 x d hx hd p hp hn with e | e | e
          · exact .inl (mT _ _ e)
          · exact .inr (.inl (mO _ _ e))
          · exact .inr (.inr (mO _ _ e))
        · have h3 := h1.opn i d hd
          rw [tv_at hs] at hd
          exact .inl ⟨⟨i, p.site, 1, (t : Int) + 1, p.change⟩, ⟨List.mem_append.2 (.inr (mem_tickList.2 (.inl ⟨((t : Int) + 1, d), AL.mem_of_get? hd, p, by rw [h3.2.1]; exact hp, hn, rfl⟩))), rfl⟩, rfl, rfl⟩
      · rcases (hT1 x).1 hx with hx | rfl
        · rcases h2.q2 x d hx hd p hp hn with e | e
          · exact .inl (mT _ _ e)
          · exact .inr (mO _ _ e)
        · have h3 := h1.gran i d hd
          rw [tv_at hs] at hd
          exact .inl ⟨⟨i, p.site, 4, (t : Int) + 1, 0⟩, ⟨List.mem_append.2 (.inr (mem_tickList.2 (.inr (.inl ⟨((t : Int) + 1, d), AL.mem_of_get? hd, p, by rw [h3.2.1]; exact hp, hn, rfl⟩)))), rfl⟩, rfl, rfl⟩
      · rcases (hT1 x).1 hx with hx | rfl
        · rcases h2.q3 x hx hp with e | e | e | e | e | e
          · exact .inl e
          · exact .inr (.inl e)
          · exact .inr (.inr (.inl (mO _ _ e)))
          · exact .inr (.inr (.inr (.inl (mO _ _ e))))
          · exact .inr (.inr (.inr (.inr (.inl (mT _ _ e)))))
          · exact .inr (.inr (.inr (.inr (.inr (mT _ _ e)))))
        · obtain ⟨q, hq⟩ := Option.ne_none_iff_exists'.1 hp
          rw [tv_at hs] at hq
          exact .inr (.inr (.inl ⟨⟨i, q.1, 7, (t : Int) + 1, 0⟩, ⟨List.mem_append.2 (.inr (mem_tickList.2 (.inr (.inr ⟨((t : Int) + 1, q), AL.mem_of_get? hq, rfl⟩)))), rfl⟩, rfl, rfl⟩))
theorem Inv.tick (h : Inv Never S0 all N) (k : Int) : Inv Never S0 all (N.tick k).1 := by
  cases hA : N.awake k with
  | mk o e =>
    cases o with
    | none => unfold Net.tick; rw [hA]; exact h
    | some s =>
      obtain ⟨i, rfl, hs, hd, _, hi⟩ := awake_some hA
      exact h.tickAt hs hd (.inl fun _ hx => hx)

/-! ### Begin, New -/
theorem key_none {α : Type} {l : List (Int × α)} {c : Int} (h : ∀ p ∈ l, 1 ≤ p.1 ∧ p.1 ≤ c) : AL.get? (c + 1) l = none := AL.get?_none.2 fun p hp e => by have := h p hp; omega
theorem key_has {α : Type} {l : List (Int × α)} {c : Int} (h : ∀ p ∈ l, 1 ≤ p.1 ∧ p.1 ≤ c) : AL.has (c + 1) l = false := by rw [AL.has_eq_isSome, key_none h]; rfl
theorem Site.Ok.sv_new {n : Nat} {c : Int} (h : s.Ok n c) : s.sv (c + 1) = Sv.empty := by
  have e1 : AL.get? (c + 1) s.granted = none := key_none (h.dealK true)
  have e2 : AL.get? (c + 1) s.opened = none := key_none (h.dealK false)
  unfold Site.sv Sv.empty
  rw [key_none h.promK, key_has h.keptK, key_has h.dropK, e1, e2]
theorem Net.Ok.tv_new (h : N.Ok) (x : Int) : N.tv (N.count + 1) x = Sv.empty := by
  rcases tv_cases (N := N) x (N.count + 1) with e | ⟨i, s, rfl, hs, e⟩
  · exact e
  · rw [e]; exact (h.at hs).sv_new
set_option maxHeartbeats 1000000 in
theorem safe_new {P : List Move} {K : Int} {v : Int → Sv} {L : Mail → Prop} (hne : P ≠ []) (hv : ∀ x, v x = if x = K then ⟨none, false, false, none, some ⟨P, []⟩⟩ else Sv.empty) (hL : ∀ m, L m → m.kind = 1 ∧ m.src = K ∧ (⟨m.dst, m.n⟩ : Move) ∈ P) : Safe1 P K False v L := by
  have hf : Deal.full ⟨P, []⟩ = false := by simp [Deal.full]; exact fun h => hne (List.length_eq_zero_iff.1 h.symm)
  have e0 : ∀ y, AL.has y ([] : List (Int × Unit)) = false := fun y => rfl
  unfold Sv.empty at hv
  constructor <;> (try simp only [hv]) <;> grind
theorem Inv.begin_ (h : Inv Never S0 all N) (k : Int) (ps : List Move) : ((N.begin_ k ps).2.2 ≠ 0 ∧ (N.begin_ k ps).1 = N ∧ (N.begin_ k ps).2.1 = 0) ∨ ((N.begin_ k ps).2.2 = 0 ∧ (N.begin_ k ps).2.1 = N.count + 1 ∧ (N.begin_ k ps).1.count = N.count + 1 ∧ Inv Never S0 (all ++ [ps]) (N.begin_ k ps).1) := by
  have hok := h.ok.begin_ k ps
  unfold Net.begin_ at hok ⊢
  cases hA : N.awake k with
  | mk o e =>
    cases o with
    | none =>
      left
      dsimp only
      refine ⟨?_, rfl, rfl⟩
      unfold Net.awake at hA
      split at hA
      · split at hA
        · cases hA; decide
        · split at hA
          · cases hA; decide
          · cases hA
      · cases hA; decide
    | some s =>
      obtain ⟨i, rfl, hs, hd, _, hi⟩ := awake_some hA
      rw [hA] at hok
      dsimp only at hok ⊢
      split
      · exact .inl ⟨show (2 : Int) ≠ 0 by decide, rfl, rfl⟩
      · rename_i hv
        rw [if_neg hv] at hok
        split
        · exact .inl ⟨show (5 : Int) ≠ 0 by decide, rfl, rfl⟩
        · rename_i hc
          rw [if_neg hc] at hok
          dsimp only at hok ⊢
          have hv : N.valid ps = true := by simpa using hv
          obtain ⟨v1, v2, v3, v4⟩ := valid_elim hv
          have hdo := h.ok.dealOf hv
          have ho := h.ok.at hs
          have hi' : (i : Int).toNat = i := by omega
          have hoR := ho.dealR false
          simp only [Site.deals, Bool.false_eq_true, if_false] at hoR
          have hs1 : ({ N with count := N.count + 1 } : Net).sites[i]? = some s := hs
          have hpost := tell_post (N := ({ N with count := N.count + 1 } : Net).setSite i { s with opened := AL.put (N.count + 1) ⟨ps, []⟩ s.opened }) h.ok.mail i 1 (N.count + 1) ps nobody
          rw [hi', hpost] at hok ⊢
          have etv : ∀ tx, ((({ N with count := N.count + 1 } : Net).setSite i { s with opened := AL.put (N.count + 1) ⟨ps, []⟩ s.opened }).post (tellList i 1 (N.count + 1) ps nobody)).tv tx = upd (N.tv tx) i (Site.sv { s with opened := AL.put (N.count + 1) ⟨ps, []⟩ s.opened } tx) := fun tx => setSite_tv hs1 _ tx
          have hold : ∀ tx, tx ≠ N.count + 1 → upd (N.tv tx) i (Site.sv { s with opened := AL.put (N.count + 1) ⟨ps, []⟩ s.opened } tx) = N.tv tx := fun tx ht => upd_eq (by rw [tv_at hs]; simp only [Site.sv, get_put_ne hoR ht])
          have hcnt := h.cnt
          refine .inr ⟨rfl, rfl, rfl, ⟨hok, ?_, ?_, fun P hP => ?_, fun t P ht => ?_, fun j x hj => ?_⟩⟩
          · show (N.sites.set i _).length = _; rw [List.length_set]; exact h.len
          · show N.count + 1 = _; rw [h.cnt]; simp
          · show PartsOk (N.sites.set i _).length P
            rw [List.length_set]
            rcases List.mem_append.1 hP with hP | hP
            · exact h.val P hP
            · rw [List.mem_singleton.1 hP]
              exact ⟨v1, hdo.len, hdo.sites, hdo.nodup, hdo.change, v4⟩
          · rw [etv]
            by_cases htl : t < all.length
            · rw [List.getElem?_append_left htl] at ht
              rw [hold _ (by omega)]
              obtain ⟨K, C, h1, _⟩ := h.tx t P ht
              refine ⟨K, C, h1.mono fun m hm => ⟨?_, hm.2⟩, LiveT.never⟩
              rcases post_mem hm.1 with h2 | h2
              · exact h2
              · obtain ⟨p, _, _, rfl⟩ := mem_tellList.1 h2
                have := hm.2
                dsimp only at this
                omega
            · have htl2 : t = all.length := by
                have := (List.getElem?_eq_some_iff.1 ht).1
                simp at this; omega
              subst htl2
              rw [List.getElem?_append_right (by omega)] at ht
              simp at ht
              subst ht
              rw [show (all.length : Int) + 1 = N.count + 1 by omega]
              refine ⟨i, False, safe_new v1 (fun x => ?_) (fun m hm => ?_), LiveT.never⟩
              · unfold upd
                split
                · have := ho.sv_new
                  unfold Site.sv Sv.empty at this
                  simp only [Sv.mk.injEq] at this
                  unfold Site.sv
                  dsimp only
                  rw [get_put_eq hoR, this.1, this.2.1, this.2.2.1, this.2.2.2.1]
                · exact h.ok.tv_new x
              · rcases post_mem hm.1 with h2 | h2
                · have h3 := (h.ok.mails m h2).tx
                  have h4 := hm.2
                  omega
                · obtain ⟨p, hp, _, rfl⟩ := mem_tellList.1 h2
                  exact ⟨rfl, rfl, by simpa using hp⟩
          · have h1 := h.stock j x hj
            have e1 : ((({ N with count := N.count + 1 } : Net).setSite i { s with opened := AL.put (N.count + 1) ⟨ps, []⟩ s.opened }).post (tellList i 1 (N.count + 1) ps nobody)).stk j = N.stk j := by
              show (({ N with count := N.count + 1 } : Net).setSite i { s with opened := AL.put (N.count + 1) ⟨ps, []⟩ s.opened }).stk j = N.stk j
              rw [setSite_stk hs1]
              split
              · rename_i e; rw [e, stk_at hs]
              · rfl
            rw [e1, h1, ksum_append]
            have hk : ∀ u, (((({ N with count := N.count + 1 } : Net).setSite i { s with opened := AL.put (N.count + 1) ⟨ps, []⟩ s.opened }).post (tellList i 1 (N.count + 1) ps nobody)).tv u j).kept = (N.tv u j).kept := fun u => by
              rw [etv]; unfold upd; split
              · rename_i e; rw [e, tv_at hs]; rfl
              · rfl
            have hfun : (fun t => (((({ N with count := N.count + 1 } : Net).setSite i { s with opened := AL.put (N.count + 1) ⟨ps, []⟩ s.opened }).post (tellList i 1 (N.count + 1) ps nobody)).tv t j).kept) = fun t => (N.tv t j).kept := funext hk
            rw [hfun]
            rw [show (1 : Int) + (all.length : Int) = N.count + 1 by omega]
            rw [hk, h.ok.tv_new]
            simp [Sv.empty]
theorem Inv.new {l : List Int} (hl : okNew l = true) : Inv Never l [] (Net.new l) := by
  refine ⟨Net.Ok.new hl, by simp [Net.new], by simp [Net.new], (fun P hP => by simp at hP), (fun t P ht => by simp at ht), fun i x hx => ?_⟩
  have : (Net.new l).sites[i]? = some (Site.fresh x) := by simp [Net.new, hx]
  rw [stk_at this]
  simp [ksum, Site.fresh]
end

end Go.Proofs.Ytfmfgckfeojfcaa
