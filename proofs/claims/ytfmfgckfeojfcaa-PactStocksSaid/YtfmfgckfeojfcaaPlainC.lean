/- Plain: what a site does with a letter, and a net with its history. -/
import Derived.Test.YtfmfgckfeojfcaaPlainB
set_option linter.unusedSimpArgs false
set_option linter.unusedVariables false
namespace Go.Proofs.Ytfmfgckfeojfcaa

def Site.sv (s : Site) (tx : Int) : Sv := ⟨AL.get? tx s.promised, AL.has tx s.kept, AL.has tx s.dropped, AL.get? tx s.granted, AL.get? tx s.opened⟩
def Sv.empty : Sv := ⟨none, false, false, none, none⟩
def Net.at? (N : Net) (x : Int) : Option Site := if 0 ≤ x then N.sites[x.toNat]? else none
def Net.tv (N : Net) (tx : Int) : Int → Sv := fun x => match N.at? x with | none => Sv.empty | some s => s.sv tx
def Net.stk (N : Net) (x : Int) : Int := match N.at? x with | none => 0 | some s => s.stock
def Net.post (N : Net) (new : List Mail) : Net := { N with mail := (N.mail ++ new).take 1024 }

section
variable {N : Net} {i : Nat} {s : Site}
theorem Net.at?_nat (N : Net) (i : Nat) : N.at? i = N.sites[i]? := by simp [Net.at?]
theorem setSite_look (hs : N.sites[i]? = some s) (s' : Site) (x : Int) : (N.setSite i s').at? x = if x = i then some s' else N.at? x := by
  unfold Net.at?
  by_cases h0 : 0 ≤ x
  · rw [if_pos h0, if_pos h0, setSite_get hs]
    by_cases e : x = i
    · subst e; simp
    · rw [if_neg e, if_neg (by omega)]
  · rw [if_neg h0, if_neg h0, if_neg (by omega)]
theorem tv_at (hs : N.sites[i]? = some s) (tx : Int) : N.tv tx i = s.sv tx := by unfold Net.tv; rw [Net.at?_nat, hs]
theorem stk_at (hs : N.sites[i]? = some s) : N.stk i = s.stock := by unfold Net.stk; rw [Net.at?_nat, hs]
theorem setSite_tv (hs : N.sites[i]? = some s) (s' : Site) (tx : Int) : (N.setSite i s').tv tx = upd (N.tv tx) i (s'.sv tx) := by
  funext x
  unfold Net.tv upd
  rw [setSite_look hs]
  by_cases e : x = i
  · simp only [e, if_true]
  · simp only [e, if_false]
theorem setSite_stk (hs : N.sites[i]? = some s) (s' : Site) (x : Int) : (N.setSite i s').stk x = if x = i then s'.stock else N.stk x := by
  unfold Net.stk
  rw [setSite_look hs]
  by_cases e : x = i
  · simp only [e, if_true]
  · simp only [e, if_false]
theorem upd_self (v : Int → Sv) (i : Int) : upd v i (v i) = v := by funext x; unfold upd; split; rename_i e; rw [e]; rfl
theorem upd_eq {v : Int → Sv} {i : Int} {a : Sv} (h : a = v i) : upd v i a = v := by rw [h]; exact upd_self v i
theorem setSite_idem (hs : N.sites[i]? = some s) : N.setSite i s = N := by
  have : N.sites.set i s = N.sites := by
    have h1 := List.getElem?_eq_some_iff.1 hs
    obtain ⟨h1, h2⟩ := h1
    rw [← h2, List.set_getElem_self]
  unfold Net.setSite
  rw [this]
theorem post_nil (h : N.mail.length ≤ 1024) : N.post [] = N := by simp [Net.post, List.take_of_length_le h]
theorem take_take_append {α : Type} (n : Nat) (a b : List α) : (a.take n ++ b).take n = (a ++ b).take n := by
  rw [List.take_append, List.take_append, List.take_take, Nat.min_self, List.length_take]
  by_cases h : a.length ≤ n
  · rw [Nat.min_eq_right h]
  · rw [Nat.min_eq_left (by omega)]
    have e1 : n - n = 0 := Nat.sub_self n
    have e2 : n - a.length = 0 := by omega
    rw [e1, e2]
theorem post_post (N : Net) (a b : List Mail) : (N.post a).post b = N.post (a ++ b) := by
  unfold Net.post
  simp only [take_take_append, List.append_assoc]
theorem post_length (N : Net) (a : List Mail) : (N.post a).mail.length ≤ 1024 := by unfold Net.post; simp only [List.length_take]; exact Nat.min_le_left _ _
theorem post_tv (N : Net) (a : List Mail) (tx : Int) : (N.post a).tv tx = N.tv tx := rfl
theorem post_stk (N : Net) (a : List Mail) (x : Int) : (N.post a).stk x = N.stk x := rfl
theorem send_post (h : N.mail.length ≤ 1024) (a b c d e : Int) : N.send a b c d e = N.post [⟨a, b, c, d, e⟩] := by
  unfold Net.send Net.post
  split
  · rename_i hlt
    rw [List.take_of_length_le (by simp; omega)]
  · rename_i hlt
    rw [List.take_append_of_le_length (by omega), List.take_of_length_le h]
def tellList (src kind tx : Int) (parts : List Move) (but : Int → Bool) : List Mail := (parts.filter fun p => !but p.site).map fun p => ⟨src, p.site, kind, tx, if kind = 1 then p.change else 0⟩
theorem tell_post (h : N.mail.length ≤ 1024) (src kind tx : Int) (parts : List Move) (but : Int → Bool) : N.tell src kind tx parts but = N.post (tellList src kind tx parts but) := by
  induction parts generalizing N with
  | nil => exact (post_nil h).symm
  | cons p r ih =>
    have e : N.tell src kind tx (p :: r) but = (Net.tell1 src kind tx but N p).tell src kind tx r but := rfl
    rw [e]
    unfold Net.tell1
    by_cases hb : but p.site = true
    · rw [if_pos hb, ih h]
      unfold tellList
      rw [List.filter_cons_of_neg (by simp [hb])]
    · have hb' : but p.site = false := by simpa using hb
      rw [if_neg hb, send_post h, ih (post_length _ _), post_post]
      unfold tellList
      rw [List.filter_cons_of_pos (by simp [hb'])]
      rfl
theorem tell_all (h : N.mail.length ≤ 1024) (m : Mail) {k : Int} (hk : k ≠ 1) (ps : List Move) (but : Int → Bool) : N.tell m.dst k m.tx ps but = N.post (toAll m k ps but) := by
  rw [tell_post h]
  unfold tellList toAll
  simp [hk]
theorem reply_post (h : N.mail.length ≤ 1024) (m : Mail) (k : Int) : N.reply m k = N.post [re m k] := send_post h _ _ _ _ _
end

/-! ### weights -/
def kw (k : Int) : Nat := if k = 1 then 4 else if k = 2 then 3 else if k = 7 then 3 else if k = 4 then 2 else 1
def mw (l : List Mail) : Nat := (l.map fun m => kw m.kind).sum
def ow (l : List (Int × Deal)) : Nat := (l.map fun p => 2 * p.2.parts.length).sum
theorem ow_perm {a b : List (Int × Deal)} (h : a.Perm b) : ow a = ow b := (h.map _).sum_nat
theorem ow_del {k : Int} {d : Deal} {m : List (Int × Deal)} (hr : AL.Rising m) (h : AL.get? k m = some d) : ow m = 2 * d.parts.length + ow (AL.del k m) := by
  rw [ow_perm (AL.perm_of_get? h (rising_nodup hr))]; simp [ow]
theorem ow_put {k : Int} {d : Deal} {m : List (Int × Deal)} : ow (AL.put k d m) = 2 * d.parts.length + ow (AL.del k m) := by
  rw [ow_perm (AL.put_perm k d m)]; simp [ow]
theorem mw_toAll (m : Mail) {k : Int} (ps : List Move) (but : Int → Bool) : mw (toAll m k ps but) ≤ kw k * ps.length := by
  unfold mw toAll
  induction ps with
  | nil => simp
  | cons p r ih =>
    simp only [List.filter_cons]
    split
    · simp only [List.map_cons, List.sum_cons, List.length_cons, Nat.mul_add]; omega
    · simp only [List.length_cons, Nat.mul_add]; omega

section
variable {N : Net} {i : Nat} {s : Site} {m : Mail}
theorem get_put_ne {α : Type} {l : List (Int × α)} (hr : AL.Rising l) {k tx : Int} (h : tx ≠ k) (v : α) : AL.get? tx (AL.put k v l) = AL.get? tx l := AL.get?_put_other h v (rising_nodup hr)
theorem get_put_eq {α : Type} {l : List (Int × α)} (hr : AL.Rising l) (k : Int) (v : α) : AL.get? k (AL.put k v l) = some v := AL.get?_put_same k v (rising_nodup hr)
theorem has_put_ne {α : Type} {l : List (Int × α)} (hr : AL.Rising l) {k tx : Int} (h : tx ≠ k) (v : α) : AL.has tx (AL.put k v l) = AL.has tx l := by rw [AL.has_eq_isSome, AL.has_eq_isSome, get_put_ne hr h]
theorem has_put_eq {α : Type} {l : List (Int × α)} (hr : AL.Rising l) (k : Int) (v : α) : AL.has k (AL.put k v l) = true := by rw [AL.has_eq_isSome, get_put_eq hr]; rfl

/-- What a site that is up does with a letter. -/
theorem handleAt_hnd (h : N.Ok) (hs : N.sites[i]? = some s) (hd : s.down = false) (hm : m.Ok N.sites.length N.count) (hi : m.dst = i) :
    ∃ s' δ new, Hnd m (s.sv m.tx) (s'.sv m.tx) δ new ∧ N.handleAt i s m = (N.setSite i s').post new ∧ (∀ tx, tx ≠ m.tx → s'.sv tx = s.sv tx) ∧ s'.stock = s.stock + δ ∧ s'.down = s.down ∧ mw new + ow s'.opened + 1 ≤ kw m.kind + ow s.opened ∧ (∀ y ∈ new, y.tx = m.tx) := by
  have ho := h.at hs
  have hml : (N.setSite i s).mail.length ≤ 1024 := h.mail
  have hself := setSite_idem hs
  have same : ∀ new, Hnd m (s.sv m.tx) (s.sv m.tx) 0 new → N.handleAt i s m = N.post new → mw new + 1 ≤ kw m.kind → (∀ y ∈ new, y.tx = m.tx) → ∃ s' δ new, Hnd m (s.sv m.tx) (s'.sv m.tx) δ new ∧ N.handleAt i s m = (N.setSite i s').post new ∧ (∀ tx, tx ≠ m.tx → s'.sv tx = s.sv tx) ∧ s'.stock = s.stock + δ ∧ s'.down = s.down ∧ mw new + ow s'.opened + 1 ≤ kw m.kind + ow s.opened ∧ (∀ y ∈ new, y.tx = m.tx) := fun new a1 a2 a3 a4 =>
    ⟨s, 0, new, a1, by rw [hself]; exact a2, fun _ _ => rfl, by omega, rfl, by omega, a4⟩
  have hre : ∀ k, ∀ y ∈ [re m k], y.tx = m.tx := fun k y hy => by rw [List.mem_singleton.1 hy]; rfl
  have hto : ∀ k ps but, ∀ y ∈ toAll m k ps but, y.tx = m.tx := fun k ps but y hy => by obtain ⟨p, _, _, e⟩ := mem_toAll.1 hy; rw [e]
  have hnil : ∀ y ∈ ([] : List Mail), y.tx = m.tx := fun y hy => by cases hy
  have hmw : ∀ k, mw [re m k] = kw k := fun k => by simp [mw, re]
  have hpR := ho.promR
  have hkR := ho.keptR
  have hdR := ho.dropR
  have hgR := ho.dealR true
  have hoR := ho.dealR false
  simp only [Site.deals, if_true, Bool.false_eq_true, if_false] at hgR hoR
  have hkind := hm.kind
  unfold Net.handleAt
  rw [if_neg (by simp [hd])]
  unfold Net.handleAt at same
  rw [if_neg (by simp [hd])] at same
  by_cases k1 : m.kind = 1
  · rw [if_pos k1] at same ⊢
    have hw : kw m.kind = 4 := by rw [k1]; rfl
    unfold Net.asked at same ⊢
    cases e1 : AL.has m.tx s.promised with
    | true =>
      simp only [e1, if_true] at same ⊢
      obtain ⟨q, hq⟩ := has_get e1
      exact same [re m 2] (.askYes k1 (by simp [Site.sv, hq])) (reply_post h.mail m 2) (by rw [hmw, hw]; decide) (hre 2)
    | false =>
      have e1' := has_get_none e1
      simp only [e1, Bool.false_eq_true, if_false] at same ⊢
      cases e2 : AL.has m.tx s.dropped with
      | true =>
        simp only [e2, if_true] at same ⊢
        exact same [re m 3] (.askNo k1 e1' e2) (reply_post h.mail m 3) (by rw [hmw, hw]; decide) (hre 3)
      | false =>
        simp only [e2, Bool.false_eq_true, if_false] at same ⊢
        cases e3 : AL.has m.tx s.kept with
        | true =>
          simp only [e3, if_true] at same ⊢
          exact same [] (.askKept k1 e1' e2 e3) (post_nil h.mail).symm (by rw [hw]; decide) hnil
        | false =>
          simp only [e3, Bool.false_eq_true, if_false] at same ⊢
          split
          · refine ⟨_, 0, [re m 2], ?_, reply_post (N := N.setSite i { s with promised := AL.put m.tx (m.src, m.n) s.promised }) h.mail m 2, fun tx ht => ?_, by simp, rfl, by rw [hmw, hw]; have : kw 2 = 3 := rfl; dsimp only; omega, hre 2⟩
            · have := Hnd.askProm (m := m) (a := s.sv m.tx) k1 e1' e2 e3
              simpa only [Site.sv, get_put_eq hpR] using this
            · simp only [Site.sv, get_put_ne hpR ht]
          · refine ⟨_, 0, [re m 3], ?_, reply_post (N := N.setSite i { s with dropped := AL.put m.tx () s.dropped }) h.mail m 3, fun tx ht => ?_, by simp, rfl, by rw [hmw, hw]; have : kw 3 = 1 := rfl; dsimp only; omega, hre 3⟩
            · have := Hnd.askDrop (m := m) (a := s.sv m.tx) k1 e1' e2 e3
              simpa only [Site.sv, has_put_eq hdR] using this
            · simp only [Site.sv, has_put_ne hdR ht]
  rw [if_neg k1] at same ⊢
  by_cases k2 : m.kind = 2
  · rw [if_pos k2] at same ⊢
    have hw : kw m.kind = 3 := by rw [k2]; rfl
    unfold Net.agreed Net.remind at same ⊢
    cases e1 : AL.get? m.tx s.opened with
    | none =>
      simp only [e1] at same ⊢
      cases e2 : AL.get? m.tx s.granted with
      | none =>
        simp only [e2] at same ⊢
        exact same [re m 5] (.yesDead k2 e1 e2) (reply_post h.mail m 5) (by rw [hmw, hw]; decide) (hre 5)
      | some d =>
        simp only [e2] at same ⊢
        cases e3 : AL.has m.src d.done with
        | true =>
          simp only [e3, if_true] at same ⊢
          exact same [] (.yesLate d k2 e1 e2 e3) (post_nil h.mail).symm (by rw [hw]; decide) hnil
        | false =>
          simp only [e3, Bool.false_eq_true, if_false] at same ⊢
          exact same [re m 4] (.yesAgain d k2 e1 e2 e3) (reply_post h.mail m 4) (by rw [hmw, hw]; decide) (hre 4)
    | some d =>
      simp only [e1] at same ⊢
      cases e2 : (d.hear m.src).full with
      | true =>
        simp only [e2, if_true]
        refine ⟨_, 0, toAll m 4 d.parts nobody, ?_, tell_all (N := N.setSite i { s with opened := AL.del m.tx s.opened, granted := AL.put m.tx ⟨d.parts, []⟩ s.granted }) h.mail m (by decide) d.parts nobody, fun tx ht => ?_, by simp, rfl, ?_, hto _ _ _⟩
        · have := Hnd.yesGrant (m := m) (a := s.sv m.tx) d k2 e1 e2
          simpa only [Site.sv, get_put_eq hgR, AL.get?_del_same] using this
        · simp only [Site.sv, get_put_ne hgR ht, AL.get?_del_other ht]
        · have a1 := mw_toAll m (k := 4) d.parts nobody
          have a2 := ow_del hoR e1
          have a3 : kw 4 = 2 := rfl
          rw [a3] at a1
          dsimp only
          omega
      | false =>
        simp only [e2, Bool.false_eq_true, if_false]
        refine ⟨_, 0, [], ?_, (post_nil (N := N.setSite i { s with opened := AL.put m.tx (d.hear m.src) s.opened }) h.mail).symm, fun tx ht => ?_, by simp, rfl, ?_, hnil⟩
        · have := Hnd.yesHear (m := m) (a := s.sv m.tx) d k2 e1 e2
          simpa only [Site.sv, get_put_eq hoR] using this
        · simp only [Site.sv, get_put_ne hoR ht]
        · have a2 := ow_del hoR e1
          have a3 : mw [] = 0 := rfl
          dsimp only
          rw [ow_put, Deal.hear_parts]
          omega
  rw [if_neg k2] at same ⊢
  by_cases k3 : m.kind = 3
  · rw [if_pos k3] at same ⊢
    have hw : kw m.kind = 1 := by rw [k3]; rfl
    unfold Net.refused at same ⊢
    cases e1 : AL.get? m.tx s.opened with
    | none =>
      simp only [e1] at same ⊢
      exact same [] (.noLate k3 e1) (post_nil h.mail).symm (by rw [hw]; decide) hnil
    | some d =>
      simp only [e1] at same ⊢
      refine ⟨_, 0, toAll m 5 d.parts (fun x => decide (x = m.src)), ?_, tell_all (N := N.setSite i { s with opened := AL.del m.tx s.opened }) h.mail m (by decide) d.parts _, fun tx ht => ?_, by simp, rfl, ?_, hto _ _ _⟩
      · have := Hnd.noDrop (m := m) (a := s.sv m.tx) d k3 e1
        simpa only [Site.sv, AL.get?_del_same] using this
      · simp only [Site.sv, AL.get?_del_other ht]
      · have a1 := mw_toAll m (k := 5) d.parts (fun x => decide (x = m.src))
        have a2 := ow_del hoR e1
        have a3 : kw 5 = 1 := rfl
        have a4 := (h.dealOk hs (g := false) e1).ne
        have a5 := List.length_pos_iff.2 a4
        rw [a3] at a1
        dsimp only
        omega
  rw [if_neg k3] at same ⊢
  by_cases k4 : m.kind = 4
  · rw [if_pos k4] at same ⊢
    have hw : kw m.kind = 2 := by rw [k4]; rfl
    unfold Net.committed at same ⊢
    cases e1 : AL.get? m.tx s.promised with
    | some p =>
      simp only [e1] at same ⊢
      refine ⟨_, p.2, [re m 6], ?_, reply_post (N := N.setSite i { s with stock := s.stock + p.2, promised := AL.del m.tx s.promised, kept := AL.put m.tx () s.kept }) h.mail m 6, fun tx ht => ?_, rfl, rfl, by rw [hmw, hw]; have : kw 6 = 1 := rfl; dsimp only; omega, hre 6⟩
      · have := Hnd.commit (m := m) (a := s.sv m.tx) p k4 e1
        simpa only [Site.sv, has_put_eq hkR, AL.get?_del_same] using this
      · simp only [Site.sv, has_put_ne hkR ht, AL.get?_del_other ht]
    | none =>
      simp only [e1] at same ⊢
      cases e2 : AL.has m.tx s.kept with
      | true =>
        simp only [e2, if_true] at same ⊢
        exact same [re m 6] (.commitAgain k4 e1 e2) (reply_post h.mail m 6) (by rw [hmw, hw]; decide) (hre 6)
      | false =>
        simp only [e2, Bool.false_eq_true, if_false] at same ⊢
        exact same [] (.commitLate k4 e1 e2) (post_nil h.mail).symm (by rw [hw]; decide) hnil
  rw [if_neg k4] at same ⊢
  by_cases k5 : m.kind = 5
  · rw [if_pos k5] at same ⊢
    have hw : kw m.kind = 1 := by rw [k5]; rfl
    unfold Net.aborted at same ⊢
    cases e1 : AL.has m.tx s.promised with
    | true =>
      simp only [e1, if_true] at same ⊢
      obtain ⟨q, hq⟩ := has_get e1
      refine ⟨_, 0, [], ?_, (post_nil (N := N.setSite i { s with promised := AL.del m.tx s.promised, dropped := AL.put m.tx () s.dropped }) h.mail).symm, fun tx ht => ?_, by simp, rfl, by rw [hw]; have : mw [] = 0 := rfl; dsimp only; omega, hnil⟩
      · have := Hnd.abort (m := m) (a := s.sv m.tx) k5 (by simp [Site.sv, hq])
        simpa only [Site.sv, has_put_eq hdR, AL.get?_del_same] using this
      · simp only [Site.sv, has_put_ne hdR ht, AL.get?_del_other ht]
    | false =>
      simp only [e1, Bool.false_eq_true, if_false] at same ⊢
      exact same [] (.abortLate k5 (has_get_none e1)) (post_nil h.mail).symm (by rw [hw]; decide) hnil
  rw [if_neg k5] at same ⊢
  by_cases k6 : m.kind = 6
  · rw [if_pos k6] at same ⊢
    have hw : kw m.kind = 1 := by rw [k6]; rfl
    unfold Net.answered at same ⊢
    cases e1 : AL.get? m.tx s.granted with
    | none =>
      simp only [e1] at same ⊢
      exact same [] (.doneLate k6 e1) (post_nil h.mail).symm (by rw [hw]; decide) hnil
    | some d =>
      simp only [e1] at same ⊢
      cases e2 : (d.hear m.src).full with
      | true =>
        simp only [e2, if_true]
        refine ⟨_, 0, [], ?_, (post_nil (N := N.setSite i { s with granted := AL.del m.tx s.granted }) h.mail).symm, fun tx ht => ?_, by simp, rfl, by rw [hw]; have : mw [] = 0 := rfl; dsimp only; omega, hnil⟩
        · have := Hnd.doneAll (m := m) (a := s.sv m.tx) d k6 e1 e2
          simpa only [Site.sv, AL.get?_del_same] using this
        · simp only [Site.sv, AL.get?_del_other ht]
      | false =>
        simp only [e2, Bool.false_eq_true, if_false]
        refine ⟨_, 0, [], ?_, (post_nil (N := N.setSite i { s with granted := AL.put m.tx (d.hear m.src) s.granted }) h.mail).symm, fun tx ht => ?_, by simp, rfl, by rw [hw]; have : mw [] = 0 := rfl; dsimp only; omega, hnil⟩
        · have := Hnd.doneHear (m := m) (a := s.sv m.tx) d k6 e1 e2
          simpa only [Site.sv, get_put_eq hgR] using this
        · simp only [Site.sv, get_put_ne hgR ht]
  rw [if_neg k6] at same ⊢
  have k7 : m.kind = 7 := by omega
  have hw : kw m.kind = 3 := by rw [k7]; rfl
  unfold Net.wondered at same ⊢
  cases e1 : AL.has m.tx s.granted with
  | true =>
    simp only [e1, if_true] at same ⊢
    obtain ⟨q, hq⟩ := has_get e1
    exact same [re m 4] (.whatCommit k7 (by simp [Site.sv, hq])) (reply_post h.mail m 4) (by rw [hmw, hw]; decide) (hre 4)
  | false =>
    simp only [e1, Bool.false_eq_true, if_false] at same ⊢
    cases e2 : AL.has m.tx s.opened with
    | true =>
      simp only [e2, if_true] at same ⊢
      obtain ⟨q, hq⟩ := has_get e2
      exact same [] (.whatOpen k7 (has_get_none e1) (by simp [Site.sv, hq])) (post_nil h.mail).symm (by rw [hw]; decide) hnil
    | false =>
      simp only [e2, Bool.false_eq_true, if_false] at same ⊢
      exact same [re m 5] (.whatAbort k7 (has_get_none e1) (has_get_none e2)) (reply_post h.mail m 5) (by rw [hmw, hw]; decide) (hre 5)
end

/-! ### the sum of what was kept -/
def chg (P : List Move) (x : Int) : Int := ((P.filter fun p => decide (p.site = x)).map (·.change)).sum
def ksum (f : Int → Bool) (x : Int) : Int → List (List Move) → Int
  | _, [] => 0
  | t, P :: r => (if f t then chg P x else 0) + ksum f x (t + 1) r
theorem ksum_congr {f g : Int → Bool} {x : Int} : ∀ {l : List (List Move)} {t : Int}, (∀ u, t ≤ u → u < t + l.length → f u = g u) → ksum f x t l = ksum g x t l
  | [], _, _ => rfl
  | P :: r, t, h => by
    simp only [ksum]
    rw [h t (by omega) (by simp; omega), ksum_congr (l := r) (t := t + 1) fun u h1 h2 => h u (by omega) (by simp; omega)]
theorem ksum_one {f g : Int → Bool} {x : Int} {P : List Move} : ∀ {l : List (List Move)} {t : Int} {j : Nat}, l[j]? = some P → f (t + j) = false → g (t + j) = true → (∀ u, u ≠ t + j → f u = g u) → ksum g x t l = ksum f x t l + chg P x
  | [], _, _, h, _, _, _ => by simp at h
  | Q :: r, t, 0, h, h1, h2, h3 => by
    simp at h; subst h
    simp only [ksum]
    have e1 : f t = false := by simpa using h1
    have e2 : g t = true := by simpa using h2
    rw [e1, e2, ksum_congr (f := f) (g := g) (l := r) (t := t + 1) fun u a b => h3 u (by omega)]
    simp; omega
  | Q :: r, t, j + 1, h, h1, h2, h3 => by
    simp only [ksum]
    have hj : r[j]? = some P := by simpa using h
    have e : t + 1 + (j : Int) = t + ((j + 1 : Nat) : Int) := by omega
    have := ksum_one (f := f) (g := g) (x := x) (P := P) (l := r) (t := t + 1) (j := j) hj (by rw [e]; exact h1) (by rw [e]; exact h2) (fun u hu => h3 u (by rw [← e]; exact hu))
    rw [this, h3 t (by omega)]
    omega
theorem ksum_append {f : Int → Bool} {x : Int} {P : List Move} : ∀ {l : List (List Move)} {t : Int}, ksum f x t (l ++ [P]) = ksum f x t l + if f (t + l.length) then chg P x else 0
  | [], t => by simp [ksum]
  | Q :: r, t => by
    have e : t + 1 + (r.length : Int) = t + ((r.length + 1 : Nat) : Int) := by omega
    simp only [List.cons_append, ksum, ksum_append (l := r) (t := t + 1), List.length_cons, e]
    omega

/-- Parts that are those of a transaction of n sites. -/
structure PartsOk (n : Nat) (P : List Move) : Prop where
  ne : P ≠ []
  len : P.length ≤ 8
  sites : ∀ p ∈ P, 0 ≤ p.site ∧ p.site < n
  nodup : (P.map (·.site)).Nodup
  change : ∀ p ∈ P, -1099511627776 ≤ p.change ∧ p.change ≤ 1099511627776
  sum : (P.map (·.change)).sum = 0

theorem chg_of {P : List Move} (hn : (P.map (·.site)).Nodup) {p : Move} (hp : p ∈ P) : chg P p.site = p.change := by
  unfold chg
  induction P with
  | nil => cases hp
  | cons q r ih =>
    rw [List.map_cons, List.nodup_cons] at hn
    rcases List.mem_cons.1 hp with rfl | hp
    · have : r.filter (fun y => decide (y.site = p.site)) = [] := List.filter_eq_nil_iff.2 fun y hy e => hn.1 (List.mem_map.2 ⟨y, hy, of_decide_eq_true e⟩)
      rw [List.filter_cons_of_pos (by simp), this]; simp
    · have : ¬ q.site = p.site := fun e => hn.1 (List.mem_map.2 ⟨p, hp, e.symm⟩)
      rw [List.filter_cons_of_neg (by simpa using this)]
      exact ih hn.2 hp

/-- Live for the sites of T. -/
structure LiveT (T : Int → Prop) (P : List Move) (K : Int) (v : Int → Sv) (L : Mail → Prop) : Prop where
  q1 : ∀ x d, T x → (v x).opn = some d → ∀ p ∈ P, AL.has p.site d.done = false → To L 1 p.site ∨ Of L 2 p.site ∨ Of L 3 p.site
  q2 : ∀ x d, T x → (v x).gran = some d → ∀ p ∈ P, AL.has p.site d.done = false → To L 4 p.site ∨ Of L 6 p.site
  q3 : ∀ x, T x → (v x).prom ≠ none → (v K).opn ≠ none ∨ (v K).gran ≠ none ∨ Of L 7 x ∨ Of L 2 x ∨ To L 4 x ∨ To L 5 x

/-- A net with its history: the first stocks, the parts of all transactions. T: the sites that have ticked (of a calm). -/
structure Inv (T : Int → Prop) (S0 : List Int) (all : List (List Move)) (N : Net) : Prop where
  ok : N.Ok
  len : N.sites.length = S0.length
  cnt : N.count = all.length
  val : ∀ P ∈ all, PartsOk N.sites.length P
  tx : ∀ (t : Nat) (P : List Move), all[t]? = some P → ∃ K C, Safe1 P K C (N.tv (t + 1)) (fun m => m ∈ N.mail ∧ m.tx = t + 1) ∧ LiveT T P K (N.tv (t + 1)) (fun m => m ∈ N.mail ∧ m.tx = t + 1)
  stock : ∀ (i : Nat) (x : Int), S0[i]? = some x → N.stk i = x + ksum (fun t => (N.tv t i).kept) i 1 all

def Never (_ : Int) : Prop := False
theorem LiveT.never {P : List Move} {K : Int} {v : Int → Sv} {L : Mail → Prop} : LiveT Never P K v L := ⟨fun _ _ h => h.elim, fun _ _ h => h.elim, fun _ h => h.elim⟩
theorem Inv.weaken {T : Int → Prop} {S0 : List Int} {all : List (List Move)} {N : Net} (h : Inv T S0 all N) : Inv Never S0 all N :=
  ⟨h.ok, h.len, h.cnt, h.val, fun t P ht => by obtain ⟨K, C, h1, _⟩ := h.tx t P ht; exact ⟨K, C, h1, LiveT.never⟩, h.stock⟩

section
variable {N : Net} {i : Nat} {s : Site}
theorem tv_out {x : Int} (h : ¬ (0 ≤ x ∧ x < N.sites.length)) (tx : Int) : N.tv tx x = Sv.empty := by
  unfold Net.tv Net.at?
  split
  · rfl
  · rename_i s hs
    split at hs
    · rename_i h0
      have := (List.getElem?_eq_some_iff.1 hs).1
      omega
    · cases hs
theorem tv_in {x : Int} (h : 0 ≤ x ∧ x < N.sites.length) : ∃ (i : Nat) (s : Site), x = i ∧ N.sites[i]? = some s := by
  refine ⟨x.toNat, N.sites[x.toNat]'(by omega), by omega, ?_⟩
  exact List.getElem?_eq_getElem (by omega)
theorem tv_cases (x tx : Int) : N.tv tx x = Sv.empty ∨ ∃ (i : Nat) (s : Site), x = i ∧ N.sites[i]? = some s ∧ N.tv tx x = s.sv tx := by
  by_cases h : 0 ≤ x ∧ x < N.sites.length
  · obtain ⟨i, s, rfl, hs⟩ := tv_in h
    exact .inr ⟨i, s, rfl, hs, tv_at hs tx⟩
  · exact .inl (tv_out h tx)
theorem Net.Ok.tvDeal (h : N.Ok) {tx x : Int} {d : Deal} (hd : (N.tv tx x).opn = some d ∨ (N.tv tx x).gran = some d) : d.Ok N.sites.length := by
  rcases tv_cases (N := N) x tx with e | ⟨i, s, rfl, hs, e⟩
  · rw [e] at hd; simp [Sv.empty] at hd
  · rw [e] at hd
    rcases hd with hd | hd
    · exact h.dealOk hs (g := false) hd
    · exact h.dealOk hs (g := true) hd
theorem mail_site (h : N.Ok) {m : Mail} (hm : m ∈ N.mail) : ∃ (i : Nat) (s : Site), m.dst = i ∧ N.sites[i]? = some s := tv_in (h.mails m hm).dst

theorem post_mem {new : List Mail} {y : Mail} (h : y ∈ (N.post new).mail) : y ∈ N.mail ∨ y ∈ new := List.mem_append.1 (List.mem_of_mem_take h)
theorem post_all {new : List Mail} (h : (N.post new).mail.length < 1024) : (N.post new).mail = N.mail ++ new := by
  unfold Net.post at h ⊢
  simp only [List.length_take] at h
  exact List.take_of_length_le (by omega)

/-- The sum of the weights of what is under way. -/
def pot (N : Net) : Nat := mw N.mail + (N.sites.map fun s => ow s.opened).sum
theorem sum_set {l : List Nat} {i : Nat} {a b : Nat} (h : l[i]? = some a) : (l.set i b).sum + a = l.sum + b := by
  induction l generalizing i with
  | nil => simp at h
  | cons x r ih =>
    cases i with
    | zero => simp at h; subst h; simp; omega
    | succ j => simp at h; have := ih h; simp; omega
theorem pot_setSite (hs : N.sites[i]? = some s) (s' : Site) : pot (N.setSite i s') + ow s.opened = pot N + ow s'.opened := by
  unfold pot Net.setSite
  simp only [List.map_set]
  have := sum_set (l := N.sites.map fun s => ow s.opened) (i := i) (a := ow s.opened) (b := ow s'.opened) (by rw [List.getElem?_map, hs]; rfl)
  omega
theorem mw_append (a b : List Mail) : mw (a ++ b) = mw a + mw b := by simp [mw]
theorem mw_take (n : Nat) (a : List Mail) : mw (a.take n) ≤ mw a := by
  have : mw (a.take n) + mw (a.drop n) = mw a := by rw [← mw_append, List.take_append_drop]
  omega
theorem mw_erase {m : Mail} : ∀ {l : List Mail} {k : Nat}, l[k]? = some m → mw (l.eraseIdx k) + kw m.kind = mw l
  | [], _, h => by simp at h
  | x :: r, 0, h => by simp at h; subst h; simp [mw]; omega
  | x :: r, k + 1, h => by
    have := mw_erase (l := r) (k := k) (m := m) (by simpa using h)
    simp [mw] at this ⊢; omega

/-- A letter is handled: m is one of the net's letters, l0 the letters that stay. -/
theorem Inv.handle {T : Int → Prop} {S0 : List Int} {all : List (List Move)} (h : Inv T S0 all N) {m : Mail} (hm : m ∈ N.mail) {l0 : List Mail} (hsub : ∀ y ∈ l0, y ∈ N.mail) (hl0 : l0.length ≤ 1024)
    (hT : (∀ x, ¬ T x) ∨ ((∀ x, T x) ∧ (∀ s ∈ N.sites, s.down = false) ∧ (∀ y ∈ N.mail, y = m ∨ y ∈ l0) ∧ (({ N with mail := l0 } : Net).handle m).mail.length < 1024)) :
    Inv T S0 all (({ N with mail := l0 } : Net).handle m) ∧ ((({ N with mail := l0 } : Net).handle m).sites.map (·.down) = N.sites.map (·.down)) ∧ pot (({ N with mail := l0 } : Net).handle m) ≤ mw l0 + (N.sites.map fun s => ow s.opened).sum + kw m.kind ∧ ((∀ s ∈ N.sites, s.down = false) → pot (({ N with mail := l0 } : Net).handle m) + 1 ≤ mw l0 + (N.sites.map fun s => ow s.opened).sum + kw m.kind) := by
  obtain ⟨i, s, hi, hs⟩ := mail_site h.ok hm
  have hmo := h.ok.mails m hm
  have hok0 : Net.Ok { N with mail := l0 } := ⟨h.ok.one, h.ok.eight, hl0, h.ok.count, h.ok.site, fun y hy => h.ok.mails y (hsub y hy)⟩
  have hok' := hok0.handle (m := m) hmo
  have hs0 : ({ N with mail := l0 } : Net).sites[i]? = some s := hs
  have e : (({ N with mail := l0 } : Net).handle m) = ({ N with mail := l0 } : Net).handleAt i s m := by
    unfold Net.handle
    have : m.dst.toNat = i := by omega
    rw [this, hs0]
  rw [e] at hok' hT ⊢
  by_cases hd : s.down = true
  · have e2 : ({ N with mail := l0 } : Net).handleAt i s m = { N with mail := l0 } := by unfold Net.handleAt; rw [if_pos hd]
    rw [e2] at hT ⊢
    refine ⟨⟨hok0, h.len, h.cnt, h.val, fun t P ht => ?_, h.stock⟩, rfl, by unfold pot; dsimp only; omega, fun hup => ?_⟩
    · obtain ⟨K, C, h1, h2⟩ := h.tx t P ht
      rcases hT with hT | ⟨_, hT, _⟩
      · exact ⟨K, C, h1.mono fun y hy => ⟨hsub y hy.1, hy.2⟩, ⟨fun x d hx => (hT x hx).elim, fun x d hx => (hT x hx).elim, fun x hx => (hT x hx).elim⟩⟩
      · have := hT s (List.mem_of_getElem? hs); rw [this] at hd; cases hd
    · have := hup s (List.mem_of_getElem? hs); rw [this] at hd; cases hd
  · obtain ⟨s', δ, new, a1, a2, a3, a4, a5, a6, a7⟩ := handleAt_hnd hok0 hs0 (by simpa using hd) hmo hi
    rw [a2] at hok' hT ⊢
    have etv : ∀ tx, ((({ N with mail := l0 } : Net).setSite i s').post new).tv tx = upd (N.tv tx) i (s'.sv tx) := fun tx => setSite_tv hs0 s' tx
    have hother : ∀ tx, tx ≠ m.tx → upd (N.tv tx) i (s'.sv tx) = N.tv tx := fun tx ht => upd_eq (by rw [a3 tx ht, tv_at hs])
    have hsame : N.tv m.tx m.dst = s.sv m.tx := by rw [hi]; exact tv_at hs m.tx
    have hsl : ((({ N with mail := l0 } : Net).setSite i s').post new).sites = N.sites.set i s' := rfl
    refine ⟨⟨hok', by rw [hsl, List.length_set]; exact h.len, h.cnt, fun P hP => by rw [hsl, List.length_set]; exact h.val P hP, fun t P ht => ?_, fun j x hj => ?_⟩, ?_, ?_, fun hup => ?_⟩
    · obtain ⟨K, C, h1, h2⟩ := h.tx t P ht
      rw [etv]
      by_cases htx : (t : Int) + 1 = m.tx
      · rw [htx] at h1 h2 ⊢
        rw [← hi]
        have hL : (fun y => y ∈ N.mail ∧ y.tx = m.tx) m := ⟨hm, rfl⟩
        have hdo : ∀ x d, (N.tv m.tx x).opn = some d ∨ (N.tv m.tx x).gran = some d → d.Ok N.sites.length := fun x d hd => h.ok.tvDeal hd
        rw [← hsame] at a1
        obtain ⟨C', g1⟩ := h1.step hL hdo a1
        refine ⟨K, C', g1.mono fun y hy => ?_, ?_⟩
        · rcases post_mem hy.1 with h3 | h3
          · exact .inl ⟨hsub y h3, hy.2⟩
          · exact .inr h3
        · rcases hT with hT | ⟨hT1, hT2, hT3, hT4⟩
          · exact ⟨fun x d hx => (hT x hx).elim, fun x d hx => (hT x hx).elim, fun x hx => (hT x hx).elim⟩
          · have g2 : Live1 P K (N.tv m.tx) (fun y => y ∈ N.mail ∧ y.tx = m.tx) := ⟨fun x d => h2.q1 x d (hT1 x), fun x d => h2.q2 x d (hT1 x), fun x => h2.q3 x (hT1 x)⟩
            have g3 := g2.step (L0 := fun y => y ∈ l0 ∧ y.tx = m.tx) h1 hL (fun y hy => by rcases hT3 y hy.1 with rfl | h4; exact .inl rfl; exact .inr ⟨h4, hy.2⟩) hdo a1
            have g4 := g3.mono (L' := fun y => y ∈ ((({ N with mail := l0 } : Net).setSite i s').post new).mail ∧ y.tx = m.tx) (fun y hy => by
              rw [post_all hT4]
              rcases hy with ⟨h4, h5⟩ | h4
              · exact ⟨List.mem_append.2 (.inl h4), h5⟩
              · exact ⟨List.mem_append.2 (.inr h4), a7 y h4⟩)
            exact ⟨fun x d _ => g4.q1 x d, fun x d _ => g4.q2 x d, fun x _ => g4.q3 x⟩
      · rw [hother _ htx]
        have hsub' : ∀ y, (y ∈ ((({ N with mail := l0 } : Net).setSite i s').post new).mail ∧ y.tx = (t : Int) + 1) → (y ∈ N.mail ∧ y.tx = (t : Int) + 1) := fun y hy => by
          rcases post_mem hy.1 with h3 | h3
          · exact ⟨hsub y h3, hy.2⟩
          · have := a7 y h3; have := hy.2; omega
        refine ⟨K, C, h1.mono hsub', ?_⟩
        rcases hT with hT | ⟨hT1, hT2, hT3, hT4⟩
        · exact ⟨fun x d hx => (hT x hx).elim, fun x d hx => (hT x hx).elim, fun x hx => (hT x hx).elim⟩
        · have g2 : Live1 P K (N.tv (t + 1)) (fun y => y ∈ N.mail ∧ y.tx = (t : Int) + 1) := ⟨fun x d => h2.q1 x d (hT1 x), fun x d => h2.q2 x d (hT1 x), fun x => h2.q3 x (hT1 x)⟩
          have g4 := g2.mono (L' := fun y => y ∈ ((({ N with mail := l0 } : Net).setSite i s').post new).mail ∧ y.tx = (t : Int) + 1) (fun y hy => by
            rw [post_all hT4]
            rcases hT3 y hy.1 with rfl | h4
            · exact absurd hy.2.symm htx
            · exact ⟨List.mem_append.2 (.inl h4), hy.2⟩)
          exact ⟨fun x d _ => g4.q1 x d, fun x d _ => g4.q2 x d, fun x _ => g4.q3 x⟩
    · have h1 := h.stock j x hj
      have estk : ((({ N with mail := l0 } : Net).setSite i s').post new).stk j = if (j : Int) = i then s'.stock else N.stk j := setSite_stk hs0 s' j
      rw [estk]
      by_cases hji : (j : Int) = i
      · rw [if_pos hji]
        have hji' : j = i := by omega
        subst hji'
        rw [stk_at hs] at h1
        rw [a4, h1]
        -- which case
        have hk : ∀ tx, (((({ N with mail := l0 } : Net).setSite j s').post new).tv tx j).kept = (s'.sv tx).kept := fun tx => by rw [etv]; simp [upd]
        have hk0 : ∀ tx, (N.tv tx j).kept = (s.sv tx).kept := fun tx => by rw [tv_at hs]
        rw [show (fun t => (((({ N with mail := l0 } : Net).setSite j s').post new).tv t j).kept) = fun t => (s'.sv t).kept from funext hk, show (fun t => (N.tv t j).kept) = fun t => (s.sv t).kept from funext hk0]
        have hno : δ = 0 → (s'.sv m.tx).kept = (s.sv m.tx).kept → x + ksum (fun t => (s.sv t).kept) j 1 all + δ = x + ksum (fun t => (s'.sv t).kept) j 1 all := fun e1 e2 => by
          rw [e1, Int.add_zero]
          congr 1
          refine ksum_congr fun u _ _ => ?_
          by_cases hu : u = m.tx
          · rw [hu, e2]
          · rw [a3 u hu]
        generalize hA : s'.sv m.tx = A at *
        cases a1 <;> first | exact hno rfl rfl | skip
        rename_i p k0 k1
        have hcnt := h.cnt
        have htx := hmo.tx
        have htN : ∃ t : Nat, m.tx = (t : Int) + 1 ∧ t < all.length := ⟨(m.tx - 1).toNat, by omega, by omega⟩
        obtain ⟨t, ht, htl⟩ := htN
        have hP : all[t]? = some all[t] := List.getElem?_eq_getElem htl
        obtain ⟨K, C, h2, _⟩ := h.tx t _ hP
        have hp : (N.tv (t + 1) j).prom = some p := by rw [tv_at hs, ← ht]; exact k1
        have h3 := h2.prom j p hp
        have h4 := h2.pk j (by rw [hp]; simp)
        rw [tv_at hs, ← ht] at h4
        have h5 := chg_of (h.val _ (List.mem_of_getElem? hP)).nodup h3.2
        have h6 := ksum_one (f := fun t => (s.sv t).kept) (g := fun t => (s'.sv t).kept) (x := (j : Int)) (P := all[t]) (l := all) (t := 1) (j := t) hP
          (by rw [show (1 : Int) + (t : Int) = m.tx by omega]; exact h4) (by rw [show (1 : Int) + (t : Int) = m.tx by omega, hA]) (fun u hu => by rw [a3 u (by omega)])
        dsimp only at h5
        rw [h6, h5]
        omega
      · rw [if_neg hji, h1]
        congr 1
        refine ksum_congr fun u _ _ => ?_
        rw [etv]; simp [upd, hji]
    · rw [hsl, List.map_set, a5]
      have : (N.sites.map (·.down))[i]? = some s.down := by rw [List.getElem?_map, hs]; rfl
      obtain ⟨h1, h2⟩ := List.getElem?_eq_some_iff.1 this
      rw [← h2, List.set_getElem_self]
    · have h1 := pot_setSite (N := { N with mail := l0 }) hs0 s'
      have h2 : pot ((({ N with mail := l0 } : Net).setSite i s').post new) ≤ pot (({ N with mail := l0 } : Net).setSite i s') + mw new := by
        unfold pot Net.post
        have := mw_take 1024 ((({ N with mail := l0 } : Net).setSite i s').mail ++ new)
        rw [mw_append] at this
        dsimp only at this ⊢
        omega
      have h3 : pot ({ N with mail := l0 } : Net) = mw l0 + (N.sites.map fun s => ow s.opened).sum := rfl
      omega
    · have h1 := pot_setSite (N := { N with mail := l0 }) hs0 s'
      have h2 : pot ((({ N with mail := l0 } : Net).setSite i s').post new) ≤ pot (({ N with mail := l0 } : Net).setSite i s') + mw new := by
        unfold pot Net.post
        have := mw_take 1024 ((({ N with mail := l0 } : Net).setSite i s').mail ++ new)
        rw [mw_append] at this
        dsimp only at this ⊢
        omega
      have h3 : pot ({ N with mail := l0 } : Net) = mw l0 + (N.sites.map fun s => ow s.opened).sum := rfl
      omega
end

end Go.Proofs.Ytfmfgckfeojfcaa
