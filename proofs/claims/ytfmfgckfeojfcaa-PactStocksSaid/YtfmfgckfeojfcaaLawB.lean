/- Walks of the laws of package pact: total, tame. -/
import Derived.Test.YtfmfgckfeojfcaaLawA
set_option linter.unusedSimpArgs false
set_option linter.unusedVariables false
namespace Go.Proofs.Ytfmfgckfeojfcaa
open Go.RowKit Go.Maps Go.ChangeMaps

/-- A slice of numbers that came in. -/
structure IntsIn (w : World) (oa : Option Addr) (n c : Nat) (l : List Int) : Prop where
  len : l.length = n
  cap : n ≤ c
  max : c ≤ 9223372036854775807
  cell : ∀ j x, l[j]? = some x → ∃ ad, oa = some ad ∧ w.cell? (ad.add j) = some (.int .i64 x)
  ints : ∀ x ∈ l, i64 x
def tame1 (x : Int) : Int := if x < 0 ∨ x > 1099511627776 then x % 18446744073709551616 % 100 else x
def tamed (l : List Int) (k : Nat) : List Int := (l.take k).map tame1
def tame (l : List Int) : List Int := if l = [] then [10] else tamed l 5
def ints (l : List Int) : List Value := l.map (Value.int .i64)
theorem info_int : (Try.prog.info? 3).map (fun i => (i.zero, i.size, i.bytes)) = some (some (.int .i64 0), 1, 8) := by kernel_rfl
theorem lt_of_cell {w : World} {a : Addr} {v : Value} (h : w.cell? a = some v) : a.block < w.heap.size := by
  rcases Nat.lt_or_ge a.block w.heap.size with h1 | h1
  · exact h1
  · simp [World.cell?, Array.getElem?_eq_none h1] at h
theorem tame1_ok (x : Int) : 0 ≤ tame1 x ∧ tame1 x ≤ 1099511627776 := by unfold tame1; split <;> omega
theorem tame_ok (l : List Int) : okNew (tame l) = true ∧ (tame l).length ≤ 5 := by
  unfold tame
  split
  · exact ⟨by decide, by decide⟩
  · rename_i h
    have h1 : (tamed l 5).length = min 5 l.length := by simp [tamed]
    have h2 := List.length_pos_iff.2 h
    refine ⟨?_, by omega⟩
    unfold okNew
    simp only [Bool.and_eq_true, decide_eq_true_eq, List.all_eq_true]
    refine ⟨⟨by omega, by omega⟩, fun x hx => ?_⟩
    obtain ⟨y, _, rfl⟩ := List.mem_map.1 hx
    have := tame1_ok y
    unfold okStock
    simp [this]
theorem u64_wrap (x : Int) : IntKind.u64.wrap x = x % 18446744073709551616 := by
  have e : (2 : Int) ^ IntKind.u64.bits = 18446744073709551616 := by decide
  unfold IntKind.wrap
  rw [e]
  simp [IntKind.signed]
theorem u64_rem {x m : Int} (hm : 0 < m) (hm2 : m ≤ 9223372036854775807) : wrap64 ((IntKind.u64.wrap x).tmod m) = x % 18446744073709551616 % m := by
  rw [u64_wrap, Int.tmod_eq_emod_of_nonneg (Int.emod_nonneg _ (by decide))]
  have h1 := Int.emod_nonneg (x % 18446744073709551616) (b := m) (by omega)
  have h2 := Int.emod_lt_of_pos (x % 18446744073709551616) hm
  exact Go.IntWalk.wrap64_in _ (by omega)

set_option maxRecDepth 20000 in
set_option maxHeartbeats 2000000 in
theorem tame_any {w : World} {oa : Option Addr} {n c : Nat} {l : List Int} (h : IntsIn w oa n c l) : Calls Try.prog 6 #[.slice oa n c] w fun e w' =>
    ∃ v', e = .returned v' ∧ w'.ownsRow w.heap.size 3 1 v' (tame l).length (ints (tame l)) ∧ Below w.heap.size w w' := by
  obtain ⟨i0, hi, hz0, hz1, hz2⟩ := info_parts info_int
  have hcl := h.cell
  have hcx := h.ints
  have hn := h.len
  have hc1 := h.cap
  have hc2 := h.max
  have HC := Lib.hid hcl
  have HX := Lib.hid hcx
  have HN := Lib.hid hn
  clear h hcl hcx hn
  go_enter Try.func6, Try.ntmps6
  go_wp2
  go_loopw [3, 4] (fun v i wr => ∃ k : Nat, i = .int .i64 k ∧ k ≤ n ∧ k ≤ 5 ∧ wr.ownsRow w.heap.size 3 1 v k (ints (tamed l k)) ∧ Below w.heap.size w wr) (fun _ i _ => n - (intOf i).toNat)
  case atStart => exact ⟨0, rfl, Nat.zero_le _, by omega, World.ownsRow_nil _ _ _ _, Below.refl _ _⟩
  case round =>
    obtain ⟨k, rfl, hk, hk5, hown, hB⟩ := hrel
    by_cases hlt : k < n ∧ k < 5
    · obtain ⟨hlt, hlt5⟩ := hlt
      have hk' : k < l.length := by rw [HN.out]; exact hlt
      obtain ⟨x, hx⟩ : ∃ x, l[k]? = some x := ⟨l[k], by simp⟩
      obtain ⟨ad, rfl, hcell⟩ := HC.out k x hx
      have hxi := HX.out x (List.mem_of_getElem? hx)
      have c0 : wr.cell? (ad.add k) = some (.int .i64 x) := (World.cell?_of_block (hB.block _ (lt_of_cell hcell))).trans hcell
      have htk : ints (tamed l (k + 1)) = ints (tamed l k) ++ [.int .i64 (tame1 x)] := by unfold ints tamed; rw [List.take_add_one, hx]; simp
      have hsz := hB.size
      have hlb := fun k hk => (hown.lt k hk).1
      have hown2 := fun y : Int => hown.alloc (.cells #[.int .i64 y] 3)
      have HT := Lib.hid htk
      have HB := Lib.hid hB
      have HO := Lib.hid hown2
      have HLb := Lib.hid hlb
      clear hcell htk hB hx hown hown2 hlb
      unfold i64 at hxi
      have hthree : x < 0 ∨ (¬ x < 0 ∧ 1099511627776 < x) ∨ (¬ x < 0 ∧ ¬ 1099511627776 < x) := by omega
      have HU : Hid (x < 0 → wrap64 ((IntKind.u64.wrap x).tmod 100) = tame1 x) := fun hb => by rw [u64_rem (by omega) (by omega)]; unfold tame1; rw [if_pos (by omega)]
      have HV : Hid (¬ x < 0 ∧ 1099511627776 < x → x % 100 = tame1 x) := fun hb => by unfold tame1; rw [if_pos (by omega)]; omega
      have HL : Hid (¬ x < 0 ∧ ¬ 1099511627776 < x → x = tame1 x) := fun hb => by unfold tame1; rw [if_neg (by omega)]
      rcases hthree with hb | ⟨hb1, hb2⟩ | ⟨hb1, hb2⟩
      all_goals
        go_wp2_with (first
          | (at_builtin; refine wpList_append_own_at _ rfl _ _ 22 rfl w.heap.size 3 i0 _ 1 8 Try.underlying22 hi hz0 hz1 hz2 rfl (by decide) _ _ _ rfl (HO.out _) ⟨wr.heap.size, 0, none⟩ 1 1 [.int .i64 _] rfl rfl (new_cells wr _ _) (ints_one (l := [_])) (by unfold maxLen; omega) (by omega) (by simp; omega) ?_)
          | go_in)
        intro v' w1 hown1 hg1 _ hloc
        first | rw [HU.out hb] at hown1 | rw [HV.out ⟨hb1, hb2⟩] at hown1 | rw [HL.out ⟨hb1, hb2⟩] at hown1
        rw [← HT.out] at hown1
        have HB1 : Hid (Below w.heap.size w w1) := (HB.out.alloc hsz _).grown hg1 (by simp; omega) (fun b hb => HLb.out b hb)
        have HO1 := Lib.hid hown1
        clear hown1 hg1 hloc
        go_wp2
        go_roundw
        case rel => exact ⟨k + 1, by go_num, by omega, by omega, HO1.out, HB1.out⟩
        case measure => simp [intOf]; omega
    · have hend : k = n ∨ k = 5 := by omega
      have htake : tamed l k = tamed l 5 := by
        unfold tamed
        rcases hend with rfl | rfl
        · rw [List.take_of_length_le (by rw [HN.out]; omega), List.take_of_length_le (by rw [HN.out]; omega)]
        · rfl
      have hlen : (tamed l 5).length = k := by rw [← htake]; unfold tamed; rw [List.length_map, List.length_take, HN.out]; omega
      rw [htake] at hown
      obtain ⟨a9, c9, rfl⟩ : ∃ a c, u3 = .slice a k c := by
        rcases isRow_of_owns hown with ⟨e, h0, _⟩ | ⟨g, cap, o, e, _⟩
        · exact ⟨none, 0, by rw [e, h0]⟩
        · exact ⟨_, _, e⟩
      by_cases hnil : n = 0
      · have hl0 : l = [] := List.eq_nil_of_length_eq_zero (by rw [HN.out]; exact hnil)
        subst hnil
        obtain rfl : k = 0 := by omega
        subst hl0
        have hsz := hB.size
        have hlb := fun k hk => (hown.lt k hk).1
        have HLb := Lib.hid hlb
        have HO := Lib.hid (hown.alloc (.cells #[.int .i64 10] 3))
        have HB := Lib.hid hB
        clear hown hB hlb hlen htake hend
        go_wp2_with (first
          | (at_builtin; refine wpList_append_own_at _ rfl _ _ 22 rfl w.heap.size 3 i0 _ 1 8 Try.underlying22 hi hz0 hz1 hz2 rfl (by decide) _ _ _ rfl HO.out ⟨wr.heap.size, 0, none⟩ 1 1 [.int .i64 10] rfl rfl (new_cells wr _ _) (ints_one (l := [10])) (by unfold maxLen; omega) (by omega) (by simp; omega) ?_)
          | go_in)
        intro v' w1 hown1 hg1 _ hloc
        have HB1 : Hid (Below w.heap.size w w1) := (HB.out.alloc hsz _).grown hg1 (by simp; omega) (fun b hb => HLb.out b hb)
        have HO1 := Lib.hid hown1
        clear hown1 hg1 hloc
        go_wp2
        go_ret
        exact ⟨_, rfl, HO1.out, HB1.out⟩
      · have hl0 : tame l = tamed l 5 := by unfold tame; rw [if_neg fun e => hnil (by rw [← HN.out, e]; rfl)]
        have hlen2 : (tame l).length = k := by rw [hl0]; exact hlen
        have hown' : wr.ownsRow w.heap.size 3 1 (.slice a9 k c9) (tame l).length (ints (tame l)) := by rw [hlen2, hl0]; exact hown
        have hk0 : ¬ k = 0 := by omega
        have HO := Lib.hid hown'
        have HB := Lib.hid hB
        clear hown hown' hB hlen hlen2 htake hend hl0
        go_wp2
        all_goals
          go_ret
          exact ⟨_, rfl, HO.out, HB.out⟩

theorem total_any {w : World} {b cap : Nat} {l : List Int} {o : Obj} (hb : w.heap[b]? = some o) (hr : IsRow 3 1 l.length cap (ints l) o) (hl : l.length ≤ 8) (hx : ∀ x ∈ l, -1125899906842624 ≤ x ∧ x ≤ 1125899906842624) :
    Calls Try.prog 15 #[.slice (some ⟨b, 0, none⟩) l.length cap] w fun e w' => e = .returned (.int .i64 l.sum) ∧ w = w' := by
  have hcell : ∀ (j : Nat) (x : Int), l[j]? = some x → w.cell? ⟨b, j, none⟩ = some (.int .i64 x) := fun j x hj => hr.cell hb (by unfold ints; rw [List.getElem?_map, hj]; rfl)
  have hblt := lt_of hb
  have HC := Lib.hid hcell
  have HX := Lib.hid hx
  clear hcell hx hb hr
  obtain ⟨n, hn⟩ : ∃ n, l.length = n := ⟨_, rfl⟩
  rw [hn] at hl ⊢
  have HN := Lib.hid hn
  clear hn
  go_enter Try.func15, Try.ntmps15
  go_wp2
  go_loopw [3, 4] (fun a i wr => ∃ k : Nat, i = .int .i64 k ∧ k ≤ n ∧ a = .int .i64 (l.take k).sum ∧ -(k * 1125899906842624 : Int) ≤ (l.take k).sum ∧ (l.take k).sum ≤ k * 1125899906842624 ∧ wr = w) (fun a i _ => n - (intOf i).toNat)
  case atStart => exact ⟨0, rfl, Nat.zero_le _, rfl, by simp, by simp, rfl⟩
  case round =>
    obtain ⟨k, rfl, hk, rfl, hs1, hs2, rfl⟩ := hrel
    by_cases hlt : k < n
    · obtain ⟨x, hx⟩ : ∃ x, l[k]? = some x := ⟨l[k]'(by rw [HN.out]; exact hlt), by simp⟩
      have c0 := HC.out k x hx
      have hb := HX.out x (List.mem_of_getElem? hx)
      have hsum : (l.take (k + 1)).sum = (l.take k).sum + x := by rw [List.take_add_one, hx, List.sum_append]; simp
      have HS := Lib.hid hsum
      clear hsum hx
      generalize (l.take k).sum = S at *
      go_wp2
      go_roundw
      case rel => exact ⟨k + 1, by go_num, by omega, by rw [HS.out], by rw [HS.out]; omega, by rw [HS.out]; omega, trivial⟩
      case measure => simp [intOf]; omega
    · have hkn : k = n := by omega
      subst hkn
      have he : l.take k = l := List.take_of_length_le (by rw [HN.out]; exact Nat.le_refl _)
      rw [he] at *
      go_wp2
      go_ret
      exact ⟨rfl, rfl⟩
end Go.Proofs.Ytfmfgckfeojfcaa
