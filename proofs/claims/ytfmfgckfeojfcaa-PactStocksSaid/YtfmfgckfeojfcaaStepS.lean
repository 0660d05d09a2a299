/- Walks of package pact: Settled. -/
import Derived.Test.YtfmfgckfeojfcaaStepQ
set_option linter.unusedSimpArgs false
set_option linter.unusedVariables false
namespace Go.Proofs.Ytfmfgckfeojfcaa
open Go.RowKit Go.Maps Go.ChangeMaps

set_option maxRecDepth 20000 in
set_option maxHeartbeats 1000000 in
theorem settled_any {w : World} {L : Lay} {N : Net} (h : Rep w L N) (hok : N.Ok) :
    Calls Try.prog 13 #[netPtr L] w fun e w' => e = .returned (.bool N.settled) ∧ Below w.heap.size w w' := by
  have h0 := hok.one
  have h8 := hok.eight
  have hm8 := hok.mail
  have c0 := h.net0
  have c1 := h.net1
  have h1 : ((N.sites.length : Int) == 0) = false := by simp; intro e; rw [e] at h0; simp at h0
  have hs := fun w' (h : Rep w' L N) => sites_any h h8
  obtain ⟨ml, hml⟩ : ∃ ml, mailV L N = ml := ⟨_, rfl⟩
  have hmlen : ∃ a n c, ml = .slice a n c ∧ n = N.mail.length := by
    rw [← hml]; unfold mailV; split
    · rename_i e; exact ⟨_, _, _, rfl, by have := h.mlen; omega⟩
    · exact ⟨_, _, _, rfl, rfl⟩
  obtain ⟨sa, sn, sc, rfl, hsn⟩ := hmlen
  rw [hml] at c1
  have hset : N.settled = (decide (sn = 0) && N.sites.all fun s => decide (s.opened.length + s.granted.length + s.promised.length = 0)) := by rw [hsn]; rfl
  rw [hset]
  have hsn8 : sn ≤ 1024 := by omega
  have HR := Lib.hid h
  have hnl := h.netLt
  unfold netPtr at *
  obtain ⟨sl, hsl⟩ : ∃ sl, N.sites.length = sl := ⟨_, rfl⟩
  rw [hsl] at h0 h8 c0 h1 hs
  have HSl := Lib.hid hsl
  clear hml hset hsn hm8 hsl
  by_cases hm0 : sn = 0
  · subst hm0
    have hbl := fun o => (Below.refl w.heap.size w).alloc (Nat.le_refl _) o
    go_enter Try.func13, Try.ntmps13
    go_wp2_with fail
    refine (hs _ h).mono ?_
    rintro e w' ⟨rfl, rfl⟩
    clear hs h hbl
    go_wp2
    go_loopw [21] (fun i wr => ∃ k : Nat, i = .int .i64 k ∧ k ≤ sl ∧ (N.sites.take k).all (fun s => decide (s.opened.length + s.granted.length + s.promised.length = 0)) = true ∧ Below w.heap.size w wr) (fun i _ => sl - (intOf i).toNat)
    case atStart => exact ⟨0, rfl, Nat.zero_le _, by simp, Below.refl _ _⟩
    case round =>
      obtain ⟨k, rfl, hk, hall, hB⟩ := hrel
      by_cases hlt : k < sl
      · have hk' : k < N.sites.length := by rw [HSl.out]; exact hlt
        obtain ⟨s, hs⟩ : ∃ s, N.sites[k]? = some s := ⟨N.sites[k], by simp⟩
        have hr := HR.out.below hB
        have d0 := hr.site0 hs
        have d1 := hr.site1 hs
        have d2 := hr.site2 hs
        have d3 := hr.site3 hs
        have d4 := hr.site4 hs
        have d5 := hr.site5 hs
        have d6 := hr.site6 hs
        have hsl2 := hr.sitesLt
        have hsok := hok.at hs
        have q1 := hsok.promLen hok.count
        have q2 := hsok.dealLen hok.count true
        have q3 := hsok.dealLen hok.count false
        obtain ⟨o1, ho1, hM1⟩ := hr.promAt hs
        obtain ⟨o2, ho2, hM2⟩ := hr.dealsAt hs true
        obtain ⟨o3, ho3, hM3⟩ := hr.dealsAt hs false
        have l1 := fun A ty => hM1.len (t := 60) Try.underlying60 (wr.alloc A) ((alloc_other wr A (lt_of ho1)).trans ho1) ty
        have l2 := fun A ty => hM2.len (t := 62) Try.underlying62 (wr.alloc A) ((alloc_other wr A (lt_of ho2)).trans ho2) ty
        have l3 := fun A ty => hM3.len (t := 62) Try.underlying62 (wr.alloc A) ((alloc_other wr A (lt_of ho3)).trans ho3) ty
        rw [show (promV s.promised).length = s.promised.length by simp [promV]] at l1
        rw [show (dealsV L true k (s.deals true)).length = s.granted.length by simp [dealsV]; rfl] at l2
        rw [show (dealsV L false k (s.deals false)).length = s.opened.length by simp [dealsV]; rfl] at l3
        have hstep : (N.sites.take (k + 1)).all (fun s => decide (s.opened.length + s.granted.length + s.promised.length = 0)) = decide (s.opened.length + s.granted.length + s.promised.length = 0) := by
          rw [List.take_add_one, hs, List.all_append, hall]; simp
        have hall2 : N.sites.all (fun s => decide (s.opened.length + s.granted.length + s.promised.length = 0)) = true → decide (s.opened.length + s.granted.length + s.promised.length = 0) = true := fun h => List.all_eq_true.1 h s (List.mem_of_getElem? hs)
        have hbl := fun o => hB.alloc (by have := hB.size; omega) o
        have q2' : s.granted.length ≤ 256 := q2
        have q3' : s.opened.length ≤ 256 := q3
        have HSt := Lib.hid hstep
        have HA2 := Lib.hid hall2
        have HBl := Lib.hid hbl
        clear hall hr hs hsok hM1 hM2 hM3 ho1 ho2 ho3 hstep hall2 hbl hB q2 q3
        generalize s.opened.length = n1 at *
        generalize s.granted.length = n2 at *
        generalize s.promised.length = n3 at *
        by_cases hz : n1 + n2 + n3 = 0
        · have hz' : ¬ ((n1 : Int) + n2 + n3 > 0) := by omega
          have hz2 : decide ((0 : Int) < (n1 : Int) + n2 + n3) = false := by simp; omega
          have HZ := Lib.hid hz
          clear hz
          go_wp2
          go_roundw
          case rel => exact ⟨k + 1, by go_num, by omega, by rw [HSt.out]; simpa using HZ.out, HBl.out _⟩
          case measure => simp [intOf]; omega
        · have hz' : ((n1 : Int) + n2 + n3 > 0) := by omega
          have hz2 : decide ((0 : Int) < (n1 : Int) + n2 + n3) = true := by simp; omega
          have HZ := Lib.hid hz
          clear hz
          have HA : Hid ((N.sites.all fun s => decide (s.opened.length + s.granted.length + s.promised.length = 0)) = false) := by
            show _ = false
            rw [Bool.eq_false_iff]
            intro h
            have := HA2.out h
            simp only [decide_eq_true_eq] at this
            exact HZ.out this
          go_wp2
          go_ret
          exact ⟨by rw [HA.out] <;> rfl, HBl.out _⟩
      · have hkn : k = sl := by omega
        subst hkn
        rw [List.take_of_length_le (by rw [HSl.out]; exact Nat.le_refl _)] at hall
        have HA := Lib.hid hall
        have HB := Lib.hid hB
        clear hall hB
        go_wp2
        go_ret
        exact ⟨by rw [HA.out] <;> rfl, HB.out⟩
  · have hz : ((sn : Int) > 0) := by omega
    have e : (decide (sn = 0) && N.sites.all fun s => decide (s.opened.length + s.granted.length + s.promised.length = 0)) = false := by simp [hm0]
    rw [e]
    clear e hm0
    go_enter Try.func13, Try.ntmps13
    go_wp2_with fail
    refine (hs _ h).mono ?_
    rintro e w' ⟨rfl, rfl⟩
    clear hs h
    go_wp2
    go_ret
    exact ⟨rfl, Below.refl _ _⟩
end Go.Proofs.Ytfmfgckfeojfcaa
