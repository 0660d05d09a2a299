/- When a net is in order: the bounds that the walks lean on. Plain. -/
import Derived.Test.YtfmfgckfeojfcaaRep
set_option linter.unusedSimpArgs false
set_option linter.unusedVariables false
namespace Go.Proofs.Ytfmfgckfeojfcaa

structure Deal.Ok (n : Nat) (d : Deal) : Prop where
  ne : d.parts ≠ []
  len : d.parts.length ≤ 8
  sites : ∀ p ∈ d.parts, 0 ≤ p.site ∧ p.site < n
  nodup : (d.parts.map (·.site)).Nodup
  change : ∀ p ∈ d.parts, -1099511627776 ≤ p.change ∧ p.change ≤ 1099511627776
  done : ∀ p ∈ d.done, d.has p.1 = true
  doneR : AL.Rising d.done
structure Site.Ok (n : Nat) (count : Int) (s : Site) : Prop where
  low : 0 ≤ s.stock + sumIf true s.promised
  high : s.stock + sumIf false s.promised ≤ 1099511627776
  promK : ∀ p ∈ s.promised, 1 ≤ p.1 ∧ p.1 ≤ count
  promS : ∀ p ∈ s.promised, 0 ≤ p.2.1 ∧ p.2.1 < n
  promC : ∀ p ∈ s.promised, -1099511627776 ≤ p.2.2 ∧ p.2.2 ≤ 1099511627776
  promR : AL.Rising s.promised
  keptK : ∀ p ∈ s.kept, 1 ≤ p.1 ∧ p.1 ≤ count
  keptR : AL.Rising s.kept
  dropK : ∀ p ∈ s.dropped, 1 ≤ p.1 ∧ p.1 ≤ count
  dropR : AL.Rising s.dropped
  dealK : ∀ g, ∀ p ∈ s.deals g, 1 ≤ p.1 ∧ p.1 ≤ count
  dealR : ∀ g, AL.Rising (s.deals g)
  dealV : ∀ g, ∀ p ∈ s.deals g, p.2.Ok n
structure Mail.Ok (n : Nat) (count : Int) (m : Mail) : Prop where
  src : 0 ≤ m.src ∧ m.src < n
  dst : 0 ≤ m.dst ∧ m.dst < n
  kind : 1 ≤ m.kind ∧ m.kind ≤ 7
  tx : 1 ≤ m.tx ∧ m.tx ≤ count
  change : -1099511627776 ≤ m.n ∧ m.n ≤ 1099511627776
structure Net.Ok (N : Net) : Prop where
  one : 1 ≤ N.sites.length
  eight : N.sites.length ≤ 8
  mail : N.mail.length ≤ 1024
  count : 0 ≤ N.count ∧ N.count ≤ 256
  site : ∀ s ∈ N.sites, s.Ok N.sites.length N.count
  mails : ∀ m ∈ N.mail, m.Ok N.sites.length N.count

theorem rising_nodup {α : Type} {m : List (Int × α)} (h : AL.Rising m) : (AL.keys m).Nodup := by
  unfold AL.keys
  rw [List.Nodup, List.pairwise_map]
  exact h.imp fun hlt e => by rw [e] at hlt; exact absurd hlt (Int.lt_irrefl _)

theorem rising_del {α : Type} {m : List (Int × α)} (h : AL.Rising m) (k : Int) : AL.Rising (AL.del k m) := List.Pairwise.filter _ h
theorem rising_ins {α : Type} (k : Int) (v : α) : ∀ {m : List (Int × α)}, AL.Rising m → (∀ p ∈ m, p.1 ≠ k) → AL.Rising (AL.ins k v m)
  | [], _, _ => List.pairwise_singleton _ _
  | y :: r, h, hne => by
    obtain ⟨h1, h2⟩ := List.pairwise_cons.1 h
    unfold AL.ins
    have hy := hne y (by simp)
    split
    · rename_i hlt
      refine List.pairwise_cons.2 ⟨fun p hp => ?_, h⟩
      rcases List.mem_cons.1 hp with rfl | hp
      · exact hlt
      · exact Int.lt_trans hlt (h1 p hp)
    · rename_i hlt
      refine List.pairwise_cons.2 ⟨fun p hp => ?_, rising_ins k v h2 (fun p hp => hne p (by simp [hp]))⟩
      rcases List.mem_cons.1 ((AL.ins_perm k v r).mem_iff.1 hp) with rfl | hp
      · show y.1 < k; omega
      · exact h1 p hp
theorem rising_put {α : Type} {m : List (Int × α)} (h : AL.Rising m) (k : Int) (v : α) : AL.Rising (AL.put k v m) :=
  rising_ins k v (rising_del h k) fun p hp => (AL.mem_del.1 hp).2
theorem put_self {α : Type} {k : Int} {v : α} : ∀ {m : List (Int × α)}, AL.Rising m → AL.get? k m = some v → AL.put k v m = m
  | [], _, h => by cases h
  | y :: r, hr, h => by
    obtain ⟨h1, h2⟩ := List.pairwise_cons.1 hr
    by_cases e : y.1 = k
    · have hd : AL.del k (y :: r) = r := by
        unfold AL.del
        rw [List.filter_cons_of_neg (by simp [e])]
        exact List.filter_eq_self.2 fun p hp => by have := h1 p hp; simp; omega
      have hy : y = (k, v) := by
        have h3 : AL.get? k (y :: r) = some y.2 := by simp [AL.get?, e]
        rw [h3] at h; cases h; rw [← e]
      unfold AL.put
      rw [hd, hy]
      cases r with
      | nil => rfl
      | cons z t =>
        have := h1 z (by simp)
        rw [hy] at this
        simp only [AL.ins, this, if_true]
    · have hg : AL.get? k r = some v := by simpa [AL.get?, e] using h
      have hk := h1 _ (AL.mem_of_get? hg)
      have hd : AL.del k (y :: r) = y :: AL.del k r := by unfold AL.del; rw [List.filter_cons_of_pos (by simp [e])]
      unfold AL.put
      rw [hd]
      have hlt : ¬ k < y.1 := by simp only at hk; omega
      simp only [AL.ins, hlt, if_false]
      have := put_self h2 hg
      unfold AL.put at this
      rw [this]

theorem rising_len {α : Type} : ∀ {m : List (Int × α)} {lo hi : Int}, AL.Rising m → (∀ p ∈ m, lo ≤ p.1 ∧ p.1 ≤ hi) → lo ≤ hi + 1 → (m.length : Int) ≤ hi + 1 - lo
  | [], lo, hi, _, _, h => by simp; omega
  | x :: r, lo, hi, hr, hb, h => by
    obtain ⟨h1, h2⟩ := List.pairwise_cons.1 hr
    have hx := hb x (by simp)
    have := rising_len (lo := x.1 + 1) (hi := hi) h2 (fun p hp => ⟨by have := h1 p hp; omega, (hb p (by simp [hp])).2⟩) (by omega)
    simp only [List.length_cons]
    omega

theorem sumIf_true_le (m : List (Int × (Int × Int))) : sumIf true m ≤ 0 := by
  induction m with
  | nil => simp [sumIf]
  | cons p r ih => simp only [sumIf]; split <;> simp_all <;> omega
theorem sumIf_false_ge (m : List (Int × (Int × Int))) : 0 ≤ sumIf false m := by
  induction m with
  | nil => simp [sumIf]
  | cons p r ih => simp only [sumIf]; split <;> simp_all <;> omega

section
variable {n : Nat} {count : Int} {s : Site}
theorem Site.Ok.stockB (h : s.Ok n count) : 0 ≤ s.stock ∧ s.stock ≤ 1099511627776 := by
  have h1 := h.low; have h2 := h.high
  have h3 := sumIf_true_le s.promised; have h4 := sumIf_false_ge s.promised
  omega
theorem Site.Ok.promLen (h : s.Ok n count) (hc : 0 ≤ count ∧ count ≤ 256) : s.promised.length ≤ 256 := by
  have := rising_len h.promR h.promK (by omega); omega
theorem Site.Ok.keptLen (h : s.Ok n count) (hc : 0 ≤ count ∧ count ≤ 256) : s.kept.length ≤ 256 := by
  have := rising_len h.keptR h.keptK (by omega); omega
theorem Site.Ok.dropLen (h : s.Ok n count) (hc : 0 ≤ count ∧ count ≤ 256) : s.dropped.length ≤ 256 := by
  have := rising_len h.dropR h.dropK (by omega); omega
theorem Site.Ok.dealLen (h : s.Ok n count) (hc : 0 ≤ count ∧ count ≤ 256) (g : Bool) : (s.deals g).length ≤ 256 := by
  have := rising_len (h.dealR g) (h.dealK g) (by omega); omega
end
theorem Net.Ok.at {N : Net} (h : N.Ok) {i : Nat} {s : Site} (hs : N.sites[i]? = some s) : s.Ok N.sites.length N.count := h.site s (List.mem_of_getElem? hs)
theorem Mail.Ok.txI {n : Nat} {count : Int} {m : Mail} (h : m.Ok n count) (hc : count ≤ 256) : i64 m.tx := by have := h.tx; unfold i64; omega
theorem Mail.Ok.srcI {n : Nat} {count : Int} {m : Mail} (h : m.Ok n count) (hc : n ≤ 8) : i64 m.src := by have := h.src; unfold i64; omega
end Go.Proofs.Ytfmfgckfeojfcaa
