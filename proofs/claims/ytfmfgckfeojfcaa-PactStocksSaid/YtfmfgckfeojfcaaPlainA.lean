/- Plain: every call keeps a net in order. -/
import Derived.Test.YtfmfgckfeojfcaaStepH
set_option linter.unusedSimpArgs false
set_option linter.unusedVariables false
namespace Go.Proofs.Ytfmfgckfeojfcaa

theorem del_not {α : Type} {k : Int} {m : List (Int × α)} (h : AL.has k m = false) : AL.del k m = m := by
  unfold AL.del
  refine List.filter_eq_self.2 fun p hp => ?_
  have : ¬ p.1 = k := fun e => by
    have : AL.has k m = true := AL.has_iff.2 ⟨p, hp, e⟩
    rw [h] at this; cases this
  simpa using this
theorem sumIf_put {neg : Bool} {k : Int} {p : Int × Int} {m : List (Int × (Int × Int))} (h : AL.has k m = false) : sumIf neg (AL.put k p m) = (if decide (p.2 < 0) = neg then p.2 else 0) + sumIf neg m := by
  rw [sumIf_perm (AL.put_perm k p m), del_not h]; rfl
theorem sumIf_del {neg : Bool} {k : Int} {p : Int × Int} {m : List (Int × (Int × Int))} (hn : (AL.keys m).Nodup) (h : AL.get? k m = some p) : sumIf neg m = (if decide (p.2 < 0) = neg then p.2 else 0) + sumIf neg (AL.del k m) := by
  rw [sumIf_perm (AL.perm_of_get? h hn)]; rfl

section
variable {n : Nat} {c : Int} {s : Site}

theorem Site.Ok.wider (h : s.Ok n c) {c' : Int} (hc : c ≤ c') : s.Ok n c' :=
  ⟨h.low, h.high, fun p hp => ⟨(h.promK p hp).1, Int.le_trans (h.promK p hp).2 hc⟩, h.promS, h.promC, h.promR, fun p hp => ⟨(h.keptK p hp).1, Int.le_trans (h.keptK p hp).2 hc⟩, h.keptR,
    fun p hp => ⟨(h.dropK p hp).1, Int.le_trans (h.dropK p hp).2 hc⟩, h.dropR, fun g p hp => ⟨(h.dealK g p hp).1, Int.le_trans (h.dealK g p hp).2 hc⟩, h.dealR, h.dealV⟩
theorem Mail.Ok.wider {m : Mail} (h : m.Ok n c) {c' : Int} (hc : c ≤ c') : m.Ok n c' := ⟨h.src, h.dst, h.kind, ⟨h.tx.1, Int.le_trans h.tx.2 hc⟩, h.change⟩

theorem Site.Ok.addDrop (h : s.Ok n c) {tx : Int} (ht : 1 ≤ tx ∧ tx ≤ c) : Site.Ok n c { s with dropped := AL.put tx () s.dropped } :=
  ⟨h.low, h.high, h.promK, h.promS, h.promC, h.promR, h.keptK, h.keptR, fun p hp => by rcases AL.mem_put.1 hp with rfl | ⟨hp, _⟩; exact ht; exact h.dropK p hp, rising_put h.dropR _ _,
    fun g => by (cases g; exact h.dealK false; exact h.dealK true), fun g => by (cases g; exact h.dealR false; exact h.dealR true), fun g => by (cases g; exact h.dealV false; exact h.dealV true)⟩
theorem Site.Ok.addProm (h : s.Ok n c) {tx : Int} (ht : 1 ≤ tx ∧ tx ≤ c) {p : Int × Int} (hp : 0 ≤ p.1 ∧ p.1 < n) (hc : -1099511627776 ≤ p.2 ∧ p.2 ≤ 1099511627776) (hno : AL.has tx s.promised = false) (hpos : s.possible p.2 = true) : Site.Ok n c { s with promised := AL.put tx p s.promised } := by
  have hl := h.low
  have hh := h.high
  refine ⟨?_, ?_, fun q hq => by rcases AL.mem_put.1 hq with rfl | ⟨hq, _⟩; exact ht; exact h.promK q hq, fun q hq => by rcases AL.mem_put.1 hq with rfl | ⟨hq, _⟩; exact hp; exact h.promS q hq,
    fun q hq => by rcases AL.mem_put.1 hq with rfl | ⟨hq, _⟩; exact hc; exact h.promC q hq, rising_put h.promR _ _, h.keptK, h.keptR, h.dropK, h.dropR,
    fun g => by (cases g; exact h.dealK false; exact h.dealK true), fun g => by (cases g; exact h.dealR false; exact h.dealR true), fun g => by (cases g; exact h.dealV false; exact h.dealV true)⟩
  · show 0 ≤ s.stock + sumIf true (AL.put tx p s.promised)
    rw [sumIf_put hno]
    unfold Site.possible at hpos
    by_cases e : p.2 < 0
    · simp [e] at hpos ⊢; omega
    · simp [e]; omega
  · show s.stock + sumIf false (AL.put tx p s.promised) ≤ 1099511627776
    rw [sumIf_put hno]
    unfold Site.possible at hpos
    by_cases e : p.2 < 0
    · simp [e]; omega
    · simp [e] at hpos ⊢; omega
theorem Site.Ok.keep (h : s.Ok n c) {tx : Int} {p : Int × Int} (hp : AL.get? tx s.promised = some p) : Site.Ok n c { s with stock := s.stock + p.2, promised := AL.del tx s.promised, kept := AL.put tx () s.kept } := by
  have hl := h.low
  have hh := h.high
  rw [sumIf_del (rising_nodup h.promR) hp] at hl hh
  have hk := h.promK _ (AL.mem_of_get? hp)
  refine ⟨?_, ?_, fun q hq => h.promK q (AL.mem_del.1 hq).1, fun q hq => h.promS q (AL.mem_del.1 hq).1, fun q hq => h.promC q (AL.mem_del.1 hq).1, rising_del h.promR _,
    fun q hq => by rcases AL.mem_put.1 hq with rfl | ⟨hq, _⟩; exact hk; exact h.keptK q hq, rising_put h.keptR _ _, h.dropK, h.dropR,
    fun g => by (cases g; exact h.dealK false; exact h.dealK true), fun g => by (cases g; exact h.dealR false; exact h.dealR true), fun g => by (cases g; exact h.dealV false; exact h.dealV true)⟩
  · show 0 ≤ s.stock + p.2 + sumIf true (AL.del tx s.promised)
    by_cases e : p.2 < 0
    · simp [e] at hl; omega
    · simp [e] at hl; omega
  · show s.stock + p.2 + sumIf false (AL.del tx s.promised) ≤ 1099511627776
    by_cases e : p.2 < 0
    · simp [e] at hh; omega
    · simp [e] at hh; omega
theorem Site.Ok.drop (h : s.Ok n c) {tx : Int} {p : Int × Int} (hp : AL.get? tx s.promised = some p) : Site.Ok n c { s with promised := AL.del tx s.promised, dropped := AL.put tx () s.dropped } := by
  have hl := h.low
  have hh := h.high
  rw [sumIf_del (rising_nodup h.promR) hp] at hl hh
  have hk := h.promK _ (AL.mem_of_get? hp)
  refine ⟨?_, ?_, fun q hq => h.promK q (AL.mem_del.1 hq).1, fun q hq => h.promS q (AL.mem_del.1 hq).1, fun q hq => h.promC q (AL.mem_del.1 hq).1, rising_del h.promR _, h.keptK, h.keptR,
    fun q hq => by rcases AL.mem_put.1 hq with rfl | ⟨hq, _⟩; exact hk; exact h.dropK q hq, rising_put h.dropR _ _,
    fun g => by (cases g; exact h.dealK false; exact h.dealK true), fun g => by (cases g; exact h.dealR false; exact h.dealR true), fun g => by (cases g; exact h.dealV false; exact h.dealV true)⟩
  · show 0 ≤ s.stock + sumIf true (AL.del tx s.promised)
    by_cases e : p.2 < 0
    · simp [e] at hl; omega
    · simp [e] at hl; omega
  · show s.stock + sumIf false (AL.del tx s.promised) ≤ 1099511627776
    by_cases e : p.2 < 0
    · simp [e] at hh; omega
    · simp [e] at hh; omega
/-- The deals turn. -/
theorem Site.Ok.withDeals (h : s.Ok n c) (g : Bool) {m : List (Int × Deal)} (hk : ∀ p ∈ m, 1 ≤ p.1 ∧ p.1 ≤ c) (hr : AL.Rising m) (hv : ∀ p ∈ m, p.2.Ok n) : Site.Ok n c (s.withDeals g m) := by
  cases g
  · exact ⟨h.low, h.high, h.promK, h.promS, h.promC, h.promR, h.keptK, h.keptR, h.dropK, h.dropR, fun g => by (cases g; exact hk; exact h.dealK true), fun g => by (cases g; exact hr; exact h.dealR true), fun g => by (cases g; exact hv; exact h.dealV true)⟩
  · exact ⟨h.low, h.high, h.promK, h.promS, h.promC, h.promR, h.keptK, h.keptR, h.dropK, h.dropR, fun g => by (cases g; exact h.dealK false; exact hk), fun g => by (cases g; exact h.dealR false; exact hr), fun g => by (cases g; exact h.dealV false; exact hv)⟩
theorem Site.Ok.delDeal (h : s.Ok n c) (g : Bool) (tx : Int) : Site.Ok n c (s.withDeals g (AL.del tx (s.deals g))) :=
  h.withDeals g (fun p hp => h.dealK g p (AL.mem_del.1 hp).1) (rising_del (h.dealR g) tx) fun p hp => h.dealV g p (AL.mem_del.1 hp).1
theorem Site.Ok.putDeal (h : s.Ok n c) (g : Bool) {tx : Int} (ht : 1 ≤ tx ∧ tx ≤ c) {d : Deal} (hd : d.Ok n) : Site.Ok n c (s.withDeals g (AL.put tx d (s.deals g))) :=
  h.withDeals g (fun p hp => by rcases AL.mem_put.1 hp with rfl | ⟨hp, _⟩; exact ht; exact h.dealK g p hp) (rising_put (h.dealR g) tx d) fun p hp => by rcases AL.mem_put.1 hp with rfl | ⟨hp, _⟩; exact hd; exact h.dealV g p hp
theorem Deal.Ok.hear {d : Deal} (h : d.Ok n) (x : Int) : (d.hear x).Ok n := by
  unfold Deal.hear
  split
  · rename_i hx
    refine ⟨h.ne, h.len, h.sites, h.nodup, h.change, fun p hp => ?_, rising_put h.doneR _ _⟩
    rcases AL.mem_put.1 hp with rfl | ⟨hp, _⟩
    · exact hx
    · exact h.done p hp
  · exact h
theorem Deal.Ok.fresh {d : Deal} (h : d.Ok n) : Deal.Ok n ⟨d.parts, []⟩ := ⟨h.ne, h.len, h.sites, h.nodup, h.change, fun p hp => by simp at hp, List.Pairwise.nil⟩
theorem Site.Ok.setDown (h : s.Ok n c) (b : Bool) : Site.Ok n c { s with down := b } :=
  ⟨h.low, h.high, h.promK, h.promS, h.promC, h.promR, h.keptK, h.keptR, h.dropK, h.dropR, fun g => by (cases g; exact h.dealK false; exact h.dealK true), fun g => by (cases g; exact h.dealR false; exact h.dealR true), fun g => by (cases g; exact h.dealV false; exact h.dealV true)⟩
end

section
variable {N : Net}
theorem Net.Ok.push (h : N.Ok) {m : Mail} (hm : m.Ok N.sites.length N.count) : (N.send m.src m.dst m.kind m.tx m.n).Ok := by
  unfold Net.send
  split
  · refine ⟨h.one, h.eight, by simp; omega, h.count, h.site, fun x hx => ?_⟩
    rcases List.mem_append.1 hx with hx | hx
    · exact h.mails x hx
    · rw [List.mem_singleton.1 hx]; exact hm
  · exact h
theorem Net.Ok.setSite (h : N.Ok) {i : Nat} {s' : Site} (hs : s'.Ok N.sites.length N.count) : (N.setSite i s').Ok := by
  refine ⟨?_, ?_, h.mail, h.count, ?_, ?_⟩
  · rw [setSite_length]; exact h.one
  · rw [setSite_length]; exact h.eight
  · intro x hx
    rw [setSite_length]
    rcases List.mem_or_eq_of_mem_set hx with hx | rfl
    · exact h.site x hx
    · exact hs
  · rw [setSite_length]; exact h.mails
theorem send_same (N : Net) (a b k t c : Int) : (N.send a b k t c).sites = N.sites ∧ (N.send a b k t c).count = N.count := by unfold Net.send; split <;> exact ⟨rfl, rfl⟩
theorem Net.Ok.reply (h : N.Ok) {m : Mail} (hm : m.Ok N.sites.length N.count) {k : Int} (hk : 1 ≤ k ∧ k ≤ 7) : (N.reply m k).Ok := h.push (m := ⟨m.dst, m.src, k, m.tx, 0⟩) ⟨hm.dst, hm.src, hk, hm.tx, by simp⟩
theorem tell1_same (src kind tx : Int) (but : Int → Bool) (N : Net) (p : Move) : (Net.tell1 src kind tx but N p).sites = N.sites ∧ (Net.tell1 src kind tx but N p).count = N.count := by
  unfold Net.tell1; split
  · exact ⟨rfl, rfl⟩
  · exact send_same _ _ _ _ _ _
theorem tell_same (src kind tx : Int) (but : Int → Bool) (ps : List Move) (N : Net) : (N.tell src kind tx ps but).sites = N.sites ∧ (N.tell src kind tx ps but).count = N.count := by
  unfold Net.tell
  induction ps generalizing N with
  | nil => exact ⟨rfl, rfl⟩
  | cons p r ih =>
    have h1 := tell1_same src kind tx but N p
    have h2 := ih (Net.tell1 src kind tx but N p)
    exact ⟨h2.1.trans h1.1, h2.2.trans h1.2⟩
theorem Net.Ok.tell (h : N.Ok) {src kind tx : Int} (hs : 0 ≤ src ∧ src < N.sites.length) (hk : 1 ≤ kind ∧ kind ≤ 7) (ht : 1 ≤ tx ∧ tx ≤ N.count) (but : Int → Bool) {ps : List Move} (h1 : ∀ p ∈ ps, 0 ≤ p.site ∧ p.site < N.sites.length) (h2 : ∀ p ∈ ps, -1099511627776 ≤ p.change ∧ p.change ≤ 1099511627776) : (N.tell src kind tx ps but).Ok := by
  unfold Net.tell
  induction ps generalizing N with
  | nil => exact h
  | cons p r ih =>
    have h3 := tell1_same src kind tx but N p
    have hp1 := h1 p (by simp)
    have hp2 := h2 p (by simp)
    refine ih (N := Net.tell1 src kind tx but N p) ?_ (by rw [h3.1]; exact hs) (by rw [h3.2]; exact ht) (fun q hq => by rw [h3.1]; exact h1 q (by simp [hq])) (fun q hq => h2 q (by simp [hq]))
    unfold Net.tell1
    split
    · exact h
    · refine h.push (m := ⟨src, p.site, kind, tx, if kind = 1 then p.change else 0⟩) ⟨hs, hp1, hk, ht, ?_⟩
      show -1099511627776 ≤ (if kind = 1 then p.change else 0) ∧ (if kind = 1 then p.change else 0) ≤ 1099511627776
      by_cases e : kind = 1
      · rw [if_pos e]; exact hp2
      · rw [if_neg e]; omega

theorem Net.Ok.asked (h : N.Ok) {i : Nat} {s : Site} (hs : N.sites[i]? = some s) {m : Mail} (hm : m.Ok N.sites.length N.count) : (N.asked i s m).Ok := by
  have ho := h.at hs
  unfold Net.asked
  split
  · exact h.reply hm (by omega)
  · rename_i e1
    split
    · exact h.reply hm (by omega)
    · split
      · exact h
      · split
        · rename_i e4
          exact (h.setSite (ho.addProm (p := (m.src, m.n)) hm.tx hm.src hm.change (by simpa using e1) e4)).reply (by rw [setSite_length]; exact hm) (by omega)
        · exact (h.setSite (ho.addDrop hm.tx)).reply (by rw [setSite_length]; exact hm) (by omega)
theorem Net.Ok.remind (h : N.Ok) (s : Site) {m : Mail} (hm : m.Ok N.sites.length N.count) : (N.remind s m).Ok := by
  unfold Net.remind
  split
  · exact h.reply hm (by omega)
  · split
    · exact h
    · exact h.reply hm (by omega)
theorem Net.Ok.agreed (h : N.Ok) {i : Nat} {s : Site} (hs : N.sites[i]? = some s) {m : Mail} (hm : m.Ok N.sites.length N.count) : (N.agreed i s m).Ok := by
  have ho := h.at hs
  unfold Net.agreed
  split
  · exact h.remind s hm
  · rename_i d hd
    have hdo := h.dealOk hs (g := false) hd
    split
    · have h1 : (N.setSite i { s with opened := AL.del m.tx s.opened, granted := AL.put m.tx ⟨d.parts, []⟩ s.granted }).Ok := h.setSite ((ho.delDeal false m.tx).putDeal true hm.tx hdo.fresh)
      exact h1.tell (by rw [setSite_length]; exact hm.dst) (by omega) hm.tx _ (by rw [setSite_length]; exact hdo.sites) hdo.change
    · exact h.setSite (ho.putDeal false hm.tx (hdo.hear _))
theorem Net.Ok.refused (h : N.Ok) {i : Nat} {s : Site} (hs : N.sites[i]? = some s) {m : Mail} (hm : m.Ok N.sites.length N.count) : (N.refused i s m).Ok := by
  have ho := h.at hs
  unfold Net.refused
  split
  · exact h
  · rename_i d hd
    have hdo := h.dealOk hs (g := false) hd
    have h1 : (N.setSite i { s with opened := AL.del m.tx s.opened }).Ok := h.setSite (ho.delDeal false m.tx)
    exact h1.tell (by rw [setSite_length]; exact hm.dst) (by omega) hm.tx _ (by rw [setSite_length]; exact hdo.sites) hdo.change
theorem Net.Ok.committed (h : N.Ok) {i : Nat} {s : Site} (hs : N.sites[i]? = some s) {m : Mail} (hm : m.Ok N.sites.length N.count) : (N.committed i s m).Ok := by
  have ho := h.at hs
  unfold Net.committed
  split
  · rename_i p hp
    exact (h.setSite (ho.keep hp)).reply (by rw [setSite_length]; exact hm) (by omega)
  · split
    · exact h.reply hm (by omega)
    · exact h
theorem Net.Ok.aborted (h : N.Ok) {i : Nat} {s : Site} (hs : N.sites[i]? = some s) {m : Mail} (hm : m.Ok N.sites.length N.count) : (N.aborted i s m).Ok := by
  have ho := h.at hs
  unfold Net.aborted
  split
  · rename_i e
    obtain ⟨p, hp⟩ := has_get e
    exact h.setSite (ho.drop hp)
  · exact h
theorem Net.Ok.answered (h : N.Ok) {i : Nat} {s : Site} (hs : N.sites[i]? = some s) {m : Mail} (hm : m.Ok N.sites.length N.count) : (N.answered i s m).Ok := by
  have ho := h.at hs
  unfold Net.answered
  split
  · exact h
  · rename_i d hd
    have hdo := h.dealOk hs (g := true) hd
    split
    · exact h.setSite (ho.delDeal true m.tx)
    · exact h.setSite (ho.putDeal true hm.tx (hdo.hear _))
theorem Net.Ok.wondered (h : N.Ok) (s : Site) {m : Mail} (hm : m.Ok N.sites.length N.count) : (N.wondered s m).Ok := by
  unfold Net.wondered
  split
  · exact h.reply hm (by omega)
  · split
    · exact h
    · exact h.reply hm (by omega)
theorem Net.Ok.handleAt (h : N.Ok) {i : Nat} {s : Site} (hs : N.sites[i]? = some s) {m : Mail} (hm : m.Ok N.sites.length N.count) : (N.handleAt i s m).Ok := by
  unfold Net.handleAt
  split
  · exact h
  split
  · exact h.asked hs hm
  split
  · exact h.agreed hs hm
  split
  · exact h.refused hs hm
  split
  · exact h.committed hs hm
  split
  · exact h.aborted hs hm
  split
  · exact h.answered hs hm
  · exact h.wondered s hm
theorem Net.Ok.handle (h : N.Ok) {m : Mail} (hm : m.Ok N.sites.length N.count) : (N.handle m).Ok := by
  unfold Net.handle
  split
  · exact h
  · rename_i s hs
    exact h.handleAt hs hm

/-! ### the calls -/
theorem nodup_le : ∀ (n : Nat) (l : List Int), l.Nodup → (∀ x ∈ l, 0 ≤ x ∧ x < (n : Int)) → l.length ≤ n
  | 0, l, _, hb => by
    cases l with
    | nil => exact Nat.le_refl _
    | cons x r => have := hb x (by simp); omega
  | n + 1, l, hn, hb => by
    have h1 := nodup_le n (l.erase n) (hn.erase _) (fun x hx => by
      have h2 := (List.Nodup.mem_erase_iff hn).1 hx
      have := hb x h2.2
      have := h2.1
      omega)
    have h2 : l.length ≤ (l.erase (n : Int)).length + 1 := by
      rw [List.length_erase]; split <;> omega
    omega
theorem validGo_elim {n : Int} : ∀ {ps : List Move} {seen : List Int} {sum : Int}, Net.validGo n ps seen sum = true → (∀ p ∈ ps, 0 ≤ p.site ∧ p.site ≤ n - 1 ∧ p.site ∉ seen ∧ p.change ≠ 0 ∧ -1099511627776 ≤ p.change ∧ p.change ≤ 1099511627776) ∧ (ps.map (·.site)).Nodup ∧ sum + (ps.map (·.change)).sum = 0
  | [], seen, sum, h => by simpa [Net.validGo] using h
  | p :: r, seen, sum, h => by
    unfold Net.validGo at h
    split at h
    · rename_i hc
      simp only [Bool.and_eq_true, decide_eq_true_eq, Bool.not_eq_true', List.any_eq_false, decide_eq_false_iff_not] at hc
      obtain ⟨h1, h2, h3⟩ := validGo_elim h
      refine ⟨fun q hq => ?_, ?_, ?_⟩
      · rcases List.mem_cons.1 hq with rfl | hq
        · exact ⟨hc.1.1.1.1, hc.1.1.1.2, fun hm => by have := hc.1.1.2 _ hm; simp at this, hc.1.2, hc.2.1, hc.2.2⟩
        · have h4 := h1 q hq
          exact ⟨h4.1, h4.2.1, fun hm => h4.2.2.1 (by simp [hm]), h4.2.2.2⟩
      · rw [List.map_cons, List.nodup_cons]
        refine ⟨fun hm => ?_, h2⟩
        obtain ⟨q, hq, e⟩ := List.mem_map.1 hm
        exact (h1 q hq).2.2.1 (by rw [e]; simp)
      · rw [List.map_cons, List.sum_cons]; omega
    · cases h
theorem valid_elim {N : Net} {ps : List Move} (h : N.valid ps = true) : ps ≠ [] ∧ (∀ p ∈ ps, (0 ≤ p.site ∧ p.site < N.sites.length) ∧ p.change ≠ 0 ∧ -1099511627776 ≤ p.change ∧ p.change ≤ 1099511627776) ∧ (ps.map (·.site)).Nodup ∧ (ps.map (·.change)).sum = 0 := by
  unfold Net.valid at h
  simp only [Bool.and_eq_true, decide_eq_true_eq] at h
  obtain ⟨h1, h2, h3⟩ := validGo_elim h.2
  refine ⟨fun e => by rw [e] at h; simp at h, fun p hp => ?_, h2, by omega⟩
  have := h1 p hp
  exact ⟨⟨this.1, by omega⟩, this.2.2.2⟩
theorem Net.Ok.dealOf (h : N.Ok) {ps : List Move} (hv : N.valid ps = true) : Deal.Ok N.sites.length ⟨ps, []⟩ := by
  obtain ⟨h1, h2, h3, h4⟩ := valid_elim hv
  have := nodup_le N.sites.length (ps.map (·.site)) h3 (fun x hx => by obtain ⟨p, hp, rfl⟩ := List.mem_map.1 hx; exact (h2 p hp).1)
  exact ⟨h1, by rw [List.length_map] at this; have := h.eight; dsimp only; omega, fun p hp => (h2 p hp).1, h3, fun p hp => (h2 p hp).2.2, fun p hp => by simp at hp, List.Pairwise.nil⟩

theorem awake_some {N : Net} {k : Int} {s : Site} {e : Int} (h : N.awake k = (some s, e)) : ∃ i : Nat, k = (i : Int) ∧ N.sites[i]? = some s ∧ s.down = false ∧ e = 0 ∧ i < N.sites.length := by
  unfold Net.awake at h
  split at h
  · rename_i hk
    unfold Net.isSite at hk
    simp only [Bool.and_eq_true, decide_eq_true_eq] at hk
    split at h
    · cases h
    · rename_i s' hs
      split at h
      · cases h
      · rename_i hd
        cases h
        exact ⟨k.toNat, by omega, hs, by simpa using hd, rfl, by omega⟩
  · cases h

theorem Net.Ok.begin_ (h : N.Ok) (k : Int) (ps : List Move) : (N.begin_ k ps).1.Ok := by
  unfold Net.begin_
  split
  · exact h
  · rename_i s e hA
    obtain ⟨i, rfl, hs, hd, _, hi⟩ := awake_some hA
    split
    · exact h
    · rename_i hv
      have hv : N.valid ps = true := by simpa using hv
      split
      · exact h
      · rename_i hc
        have hdo := h.dealOf hv
        have ho := h.at hs
        have hcc := h.count
        have h1 : Net.Ok { N with count := N.count + 1 } := ⟨h.one, h.eight, h.mail, by dsimp only; omega, fun x hx => (h.site x hx).wider (by dsimp only; omega), fun m hm => (h.mails m hm).wider (by dsimp only; omega)⟩
        have h2 : (({ N with count := N.count + 1 } : Net).setSite i { s with opened := AL.put (N.count + 1) ⟨ps, []⟩ s.opened }).Ok :=
          h1.setSite ((ho.wider (c' := N.count + 1) (by omega)).putDeal false (tx := N.count + 1) (by omega) hdo)
        exact h2.tell (by rw [setSite_length]; dsimp only; omega) (by omega) (by show 1 ≤ N.count + 1 ∧ N.count + 1 ≤ N.count + 1; omega) _ (by rw [setSite_length]; exact hdo.sites) hdo.change
theorem Net.Ok.cancel (h : N.Ok) (k tx : Int) : (N.cancel k tx).1.Ok := by
  unfold Net.cancel
  split
  · exact h
  · rename_i s e hA
    obtain ⟨i, rfl, hs, hd, _, hi⟩ := awake_some hA
    split
    · exact h
    · rename_i d hd
      have ho := h.at hs
      have hdo := h.dealOk hs (g := false) hd
      have ht := ho.dealK false _ (AL.mem_of_get? hd)
      have h1 : (N.setSite i { s with opened := AL.del tx s.opened }).Ok := h.setSite (ho.delDeal false tx)
      exact h1.tell (by rw [setSite_length]; omega) (by omega) ht _ (by rw [setSite_length]; exact hdo.sites) hdo.change
theorem Net.Ok.crash (h : N.Ok) (k : Int) : (N.crash k).1.Ok := by
  unfold Net.crash
  split
  · exact h
  · rename_i s e hA
    obtain ⟨i, rfl, hs, hd, _, hi⟩ := awake_some hA
    exact h.setSite (((h.at hs).setDown true).withDeals false (m := []) (fun p hp => by simp at hp) List.Pairwise.nil (fun p hp => by simp at hp))
theorem Net.Ok.start (h : N.Ok) (k : Int) : (N.start k).1.Ok := by
  unfold Net.start
  split
  · split
    · exact h
    · rename_i s hs
      split
      · exact h.setSite ((h.at hs).setDown false)
      · exact h
  · exact h
theorem foldl_tickDeal {k kind : Int} (hk : 1 ≤ kind ∧ kind ≤ 7) : ∀ (l : List (Int × Deal)) {N : Net}, N.Ok → 0 ≤ k ∧ k < N.sites.length → (∀ p ∈ l, 1 ≤ p.1 ∧ p.1 ≤ N.count) → (∀ p ∈ l, p.2.Ok N.sites.length) → (l.foldl (Net.tickDeal k kind) N).Ok ∧ (l.foldl (Net.tickDeal k kind) N).sites = N.sites ∧ (l.foldl (Net.tickDeal k kind) N).count = N.count
  | [], N, h, _, _, _ => ⟨h, rfl, rfl⟩
  | p :: r, N, h, hs, h1, h2 => by
    have hp2 := h2 p (by simp)
    have h3 := tell_same k kind p.1 (fun x => AL.has x p.2.done) p.2.parts N
    have h4 : (Net.tickDeal k kind N p).Ok := h.tell hs hk (h1 p (by simp)) _ hp2.sites hp2.change
    have e1 : (Net.tickDeal k kind N p).sites = N.sites := h3.1
    have e2 : (Net.tickDeal k kind N p).count = N.count := h3.2
    obtain ⟨a1, a2, a3⟩ := foldl_tickDeal hk r h4 (by rw [e1]; exact hs) (fun q hq => by rw [e2]; exact h1 q (by simp [hq])) (fun q hq => by rw [e1]; exact h2 q (by simp [hq]))
    exact ⟨a1, a2.trans e1, a3.trans e2⟩
theorem foldl_tickProm {k : Int} : ∀ (l : List (Int × (Int × Int))) {N : Net}, N.Ok → 0 ≤ k ∧ k < N.sites.length → (∀ p ∈ l, 1 ≤ p.1 ∧ p.1 ≤ N.count) → (∀ p ∈ l, 0 ≤ p.2.1 ∧ p.2.1 < N.sites.length) → (l.foldl (Net.tickProm k) N).Ok ∧ (l.foldl (Net.tickProm k) N).sites = N.sites ∧ (l.foldl (Net.tickProm k) N).count = N.count
  | [], N, h, _, _, _ => ⟨h, rfl, rfl⟩
  | p :: r, N, h, hs, h1, h2 => by
    have h3 := send_same N k p.2.1 7 p.1 0
    have h4 : (Net.tickProm k N p).Ok := h.push (m := ⟨k, p.2.1, 7, p.1, 0⟩) ⟨hs, h2 p (by simp), by simp, h1 p (by simp), by simp⟩
    have e1 : (Net.tickProm k N p).sites = N.sites := h3.1
    have e2 : (Net.tickProm k N p).count = N.count := h3.2
    obtain ⟨a1, a2, a3⟩ := foldl_tickProm r h4 (by rw [e1]; exact hs) (fun q hq => by rw [e2]; exact h1 q (by simp [hq])) (fun q hq => by rw [e1]; exact h2 q (by simp [hq]))
    exact ⟨a1, a2.trans e1, a3.trans e2⟩
theorem Net.Ok.tick (h : N.Ok) (k : Int) : (N.tick k).1.Ok := by
  unfold Net.tick
  split
  · exact h
  · rename_i s e hA
    obtain ⟨i, rfl, hs, hd, _, hi⟩ := awake_some hA
    have ho := h.at hs
    have hib : 0 ≤ (i : Int) ∧ (i : Int) < N.sites.length := by omega
    obtain ⟨a1, a2, a3⟩ := foldl_tickDeal (k := i) (kind := 1) (by omega) s.opened h hib (ho.dealK false) (ho.dealV false)
    obtain ⟨b1, b2, b3⟩ := foldl_tickDeal (k := i) (kind := 4) (by omega) s.granted a1 (by rw [a2]; exact hib) (by rw [a3]; exact ho.dealK true) (by rw [a2]; exact ho.dealV true)
    exact (foldl_tickProm (k := i) s.promised b1 (by rw [b2, a2]; exact hib) (by rw [b3, a3]; exact ho.promK) (by rw [b2, a2]; exact ho.promS)).1
theorem Net.Ok.cut (h : N.Ok) (k : Nat) : Net.Ok { N with mail := N.mail.eraseIdx k } :=
  ⟨h.one, h.eight, Nat.le_trans (List.length_eraseIdx_le _ _) h.mail, h.count, h.site, fun m hm => h.mails m (List.mem_of_mem_eraseIdx hm)⟩
theorem Net.Ok.deliver (h : N.Ok) (k : Int) : (N.deliver k).1.Ok := by
  unfold Net.deliver
  split
  · split
    · exact h
    · rename_i m hm
      exact (h.cut k.toNat).handle (h.mails m (List.mem_of_getElem? hm))
  · exact h
theorem Net.Ok.repeat_ (h : N.Ok) (k : Int) : (N.repeat_ k).1.Ok := by
  unfold Net.repeat_
  split
  · split
    · exact h
    · rename_i m hm
      exact h.handle (h.mails m (List.mem_of_getElem? hm))
  · exact h
theorem Net.Ok.lose (h : N.Ok) (k : Int) : (N.lose k).1.Ok := by
  unfold Net.lose
  split
  · exact h.cut k.toNat
  · exact h
theorem Net.Ok.new {l : List Int} (h : okNew l = true) : (Net.new l).Ok := by
  unfold okNew at h
  simp only [Bool.and_eq_true, decide_eq_true_eq, List.all_eq_true] at h
  refine ⟨by simp [Net.new]; omega, by simp [Net.new]; omega, by simp [Net.new], by simp [Net.new], fun s hs => ?_, fun m hm => by simp [Net.new] at hm⟩
  obtain ⟨x, hx, rfl⟩ := List.mem_map.1 hs
  have h2 := h.2 x hx
  unfold okStock at h2
  simp only [Bool.and_eq_true, decide_eq_true_eq] at h2
  refine ⟨by simp [Site.fresh, sumIf]; omega, by simp [Site.fresh, sumIf]; omega, ?_, ?_, ?_, ?_, ?_, ?_, ?_, ?_, ?_, ?_, ?_⟩ <;> simp [Site.fresh, Site.deals, AL.Rising]
end
end Go.Proofs.Ytfmfgckfeojfcaa
