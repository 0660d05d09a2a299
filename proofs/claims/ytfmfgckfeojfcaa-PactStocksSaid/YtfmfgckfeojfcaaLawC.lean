/- Walks of the laws of package pact: sum, act. -/
import Derived.Test.YtfmfgckfeojfcaaLawB
import Derived.Test.YtfmfgckfeojfcaaStepP
import Derived.Test.YtfmfgckfeojfcaaPlainE
set_option linter.unusedSimpArgs false
set_option linter.unusedVariables false
namespace Go.Proofs.Ytfmfgckfeojfcaa
open Go.RowKit Go.Maps Go.ChangeMaps

theorem movesIn_below {w w' : World} {v : Value} {ps : List Move} (h : MovesIn w v ps) (hb : Below w.heap.size w w') : MovesIn w' v ps := by
  rcases h with h | ⟨ad, c, e, h1, h2, h3⟩
  · exact .inl h
  · refine .inr ⟨ad, c, e, h1, h2, fun j u hu => ?_⟩
    have := h3 j u hu
    exact (World.cell?_of_block (hb.block _ (lt_of_cell this))).trans this
def Net.stocks (N : Net) : List Int := N.sites.map (·.stock)
theorem stock_at {N : Net} {i : Nat} {s : Site} (hs : N.sites[i]? = some s) : N.stock i = (s.stock, 0) := by
  have e : (i : Int).toNat = i := by omega
  unfold Net.stock; rw [isSite_in hs, e, hs]; rfl

set_option maxRecDepth 20000 in
set_option maxHeartbeats 2000000 in
theorem sum_any {F : Nat → Prop} {nb : Nat} {w : World} {N : Net} (h : OwnF F w nb N) (hok : N.Ok) :
    Calls Try.prog 14 #[ptr nb] w fun e w' => e = .returned (.int .i64 N.stocks.sum) ∧ w = w' := by
  have hn8 := hok.eight
  obtain ⟨n, hn⟩ : ∃ n, N.sites.length = n := ⟨_, rfl⟩
  have hS := ownF_sites h
  have hT := ownF_stock h
  have hI := fun (i : Nat) (s : Site) (hs : N.sites[i]? = some s) => (hok.at hs).stockB
  rw [hn] at hS hn8
  have HS := Lib.hid hS
  have HT := Lib.hid hT
  have HI := Lib.hid hI
  have HN := Lib.hid hn
  clear hS hT h hok hI hn
  unfold ptr at *
  go_enter Try.func14, Try.ntmps14
  go_wp2
  go_loopw [3, 4] (fun a i wr => ∃ k : Nat, i = .int .i64 k ∧ k ≤ n ∧ a = .int .i64 (N.stocks.take k).sum ∧ 0 ≤ (N.stocks.take k).sum ∧ (N.stocks.take k).sum ≤ k * 1099511627776 ∧ wr = w) (fun a i _ => n - (intOf i).toNat)
  case atStart => exact ⟨0, rfl, Nat.zero_le _, rfl, by simp, by simp, rfl⟩
  case round =>
    obtain ⟨k, rfl, hk, rfl, hs1, hs2, rfl⟩ := hrel
    by_cases hlt : k < n
    · obtain ⟨s, hs⟩ : ∃ s, N.sites[k]? = some s := ⟨N.sites[k]'(by rw [HN.out]; exact hlt), by simp⟩
      have hst := HT.out k
      have hb := HI.out k s hs
      rw [stock_at hs] at hst
      have hsum : (N.stocks.take (k + 1)).sum = (N.stocks.take k).sum + s.stock := by unfold Net.stocks; rw [List.take_add_one, List.getElem?_map, hs, List.sum_append]; simp
      have HU := Lib.hid hsum
      have HK := Lib.hid hst
      clear hsum hs hst
      generalize (N.stocks.take k).sum = S at *
      go_wp2_with (first | (go_at_call 8; refine HS.out.mono ?_; rintro e w' ⟨rfl, rfl⟩) | (go_at_call 17; refine HK.out.mono ?_; rintro e w' ⟨rfl, rfl⟩) | go_in)
      go_roundw
      case rel => exact ⟨k + 1, by go_num, by omega, by rw [HU.out], by rw [HU.out]; omega, by rw [HU.out]; omega, trivial⟩
      case measure => simp [intOf]; omega
    · have hkn : k = n := by omega
      subst hkn
      have he : N.stocks.take k = N.stocks := List.take_of_length_le (by unfold Net.stocks; rw [List.length_map, HN.out]; exact Nat.le_refl _)
      rw [he] at *
      go_wp2_with (first | (go_at_call 8; refine HS.out.mono ?_; rintro e w' ⟨rfl, rfl⟩) | go_in)
      go_ret
      exact ⟨rfl, rfl⟩

theorem act_code (k : Int) : (IntKind.u64.wrap k).tmod 15 = k % 18446744073709551616 % 15 := by rw [u64_wrap, Int.tmod_eq_emod_of_nonneg (Int.emod_nonneg _ (by decide))]

section
variable (N : Net) (a : Act) (txs : Int)
theorem act_0 (h : a.code = 0 ∨ a.code = 1) : act N a txs = ((N.begin_ a.site (a.parts.take 9)).1, if (N.begin_ a.site (a.parts.take 9)).2.2 = 0 then max txs (N.begin_ a.site (a.parts.take 9)).2.1 else txs) := by unfold act; rw [if_pos h]
theorem act_2 (h : a.code = 2) : act N a txs = ((N.cancel a.site a.n).1, txs) := by unfold act; rw [if_neg (by omega), if_pos h]
theorem act_3 (h : 3 ≤ a.code ∧ a.code ≤ 7) : act N a txs = ((N.deliver a.n).1, txs) := by unfold act; rw [if_neg (by omega), if_neg (by omega), if_pos h.2]
theorem act_8 (h : a.code = 8) : act N a txs = ((N.repeat_ a.n).1, txs) := by unfold act; rw [if_neg (by omega), if_neg (by omega), if_neg (by omega), if_pos h]
theorem act_9 (h : a.code = 9) : act N a txs = ((N.lose a.n).1, txs) := by unfold act; rw [if_neg (by omega), if_neg (by omega), if_neg (by omega), if_neg (by omega), if_pos h]
theorem act_10 (h : 10 ≤ a.code ∧ a.code ≤ 11) : act N a txs = ((N.tick a.site).1, txs) := by unfold act; rw [if_neg (by omega), if_neg (by omega), if_neg (by omega), if_neg (by omega), if_neg (by omega), if_pos h.2]
theorem act_12 (h : a.code = 12) : act N a txs = ((N.crash a.site).1, txs) := by unfold act; rw [if_neg (by omega), if_neg (by omega), if_neg (by omega), if_neg (by omega), if_neg (by omega), if_neg (by omega), if_pos h]
theorem act_13 (h : 13 ≤ a.code) : act N a txs = ((N.start a.site).1, txs) := by unfold act; rw [if_neg (by omega), if_neg (by omega), if_neg (by omega), if_neg (by omega), if_neg (by omega), if_neg (by omega), if_neg (by omega)]
theorem code_nonneg : 0 ≤ a.code := by unfold Act.code; omega
end

set_option maxRecDepth 20000 in
set_option maxHeartbeats 8000000 in
theorem act_any {F : Nat → Prop} {nb : Nat} {w : World} {N : Net} (h : OwnF F w nb N) (a : Act) (han : i64 a.n) {v : Value} (hv : MovesIn w v a.parts) (txs : Int) :
    Calls Try.prog 9 #[ptr nb, .agg #[.int .i64 a.kind, .int .i64 a.site, .int .i64 a.n, v], .int .i64 txs] w fun e w' =>
      e = .returned (.int .i64 (act N a txs).2) ∧ OwnF F w' nb (act N a txs).1 ∧ Keep F w w' := by
  have hbox : (w.alloc (.cells #[.int .i64 a.kind, .int .i64 a.site, .int .i64 a.n, v] 34)).heap[w.heap.size]? = some (.cells #[.int .i64 a.kind, .int .i64 a.site, .int .i64 a.n, v] 34 (0, 0)) := alloc_same w _
  have hb0 : Below w.heap.size w (w.alloc (.cells #[.int .i64 a.kind, .int .i64 a.site, .int .i64 a.n, v] 34)) := (Below.refl _ w).alloc (Nat.le_refl _) _
  have h0 := h.below hb0
  have hv0 := movesIn_below hv hb0
  have hb00 : Keep F w (w.alloc (.cells #[.int .i64 a.kind, .int .i64 a.site, .int .i64 a.n, v] 34)) := Keep.of_below hb0
  have c0 : (w.alloc (.cells #[.int .i64 a.kind, .int .i64 a.site, .int .i64 a.n, v] 34)).cell? ⟨w.heap.size, 0, none⟩ = some (.int .i64 a.kind) := cell_of hbox rfl
  have c1 : (w.alloc (.cells #[.int .i64 a.kind, .int .i64 a.site, .int .i64 a.n, v] 34)).cell? ⟨w.heap.size, 1, none⟩ = some (.int .i64 a.site) := cell_of hbox rfl
  have c2 : (w.alloc (.cells #[.int .i64 a.kind, .int .i64 a.site, .int .i64 a.n, v] 34)).cell? ⟨w.heap.size, 2, none⟩ = some (.int .i64 a.n) := cell_of hbox rfl
  have c3 : (w.alloc (.cells #[.int .i64 a.kind, .int .i64 a.site, .int .i64 a.n, v] 34)).cell? ⟨w.heap.size, 3, none⟩ = some v := cell_of hbox rfl
  have hP : Calls Try.prog 10 #[v] (w.alloc (.cells #[.int .i64 a.kind, .int .i64 a.site, .int .i64 a.n, v] 34)).drew fun e w5 => ∃ v', e = .returned v' ∧ w5.cell? ⟨w.heap.size, 1, none⟩ = some (.int .i64 a.site) ∧
      Calls Try.prog 18 #[ptr nb, .int .i64 a.site, v'] w5 fun e w2 => e = .returned (.tuple #[.int .i64 (N.begin_ a.site (a.parts.take 9)).2.1, .int .i64 (N.begin_ a.site (a.parts.take 9)).2.2]) ∧ OwnF F w2 nb (N.begin_ a.site (a.parts.take 9)).1 ∧ Keep F w w2 := by
    refine (parts_any (movesIn_below hv0 (Below.refl _ _).drew)).mono ?_
    rintro e w5 ⟨v', rfl, hown, hb⟩
    have hbl := lt_of hbox
    have hbx5 := (hb.block w.heap.size hbl).trans hbox
    refine ⟨v', rfl, cell_of hbx5 rfl, ?_⟩
    have hd : OwnF F (w.alloc (.cells #[.int .i64 a.kind, .int .i64 a.site, .int .i64 a.n, v] 34)).drew nb N := h0.below (Below.refl _ _).drew
    refine (ownF_begin hd hb a.site hown (by rw [List.length_take]; omega)).mono ?_
    rintro e w2 ⟨rfl, h2, h3⟩
    have hs := hb0.size
    exact ⟨rfl, h2, (hb00.trans ((Keep.of_below (Below.refl _ _).drew).trans (Keep.of_below hb))).trans h3⟩
  have HP := Lib.hid hP
  have HO := Lib.hid h0
  have HB := Lib.hid hb00
  have HN := Lib.hid han
  clear hbox hb0 h h0 hv hv0 hb00 hP han
  unfold ptr at *
  go_enter Try.func9, Try.ntmps9
  go_wp2_with (first
    | (go_at_call 22; refine (ownF_cancel HO.out _ HN.out).mono ?_; rintro e w' ⟨rfl, hO', hB'⟩)
    | (go_at_call 23; refine (ownF_deliver HO.out _).mono ?_; rintro e w' ⟨rfl, hO', hB'⟩)
    | (go_at_call 24; refine (ownF_repeat HO.out _).mono ?_; rintro e w' ⟨rfl, hO', hB'⟩)
    | (go_at_call 25; refine (ownF_lose HO.out _).mono ?_; rintro e w' ⟨rfl, hO', hB'⟩)
    | (go_at_call 26; refine (ownF_tick HO.out _).mono ?_; rintro e w' ⟨rfl, hO', hB'⟩)
    | (go_at_call 27; refine (ownF_crash HO.out _).mono ?_; rintro e w' ⟨rfl, hO', hB'⟩)
    | (go_at_call 28; refine (ownF_start HO.out _).mono ?_; rintro e w' ⟨rfl, hO', hB'⟩)
    | go_in)
  all_goals first | go_region_with (first | (go_at_call 10; refine HP.out.mono ?_; rintro e w5 ⟨v5, rfl, b1, hBeg⟩; have HBeg := Lib.hid hBeg; clear hBeg) | (go_at_call 18; refine HBeg.out.mono ?_; rintro e w' ⟨rfl, hO', hB'⟩)) | skip
  all_goals
    try go_wp2
  all_goals
    have hcode : _ = a.code := act_code a.kind
    have hnn := code_nonneg a
    have hB2 := HB.out
    have hBB : Keep F w w' := by first | exact HB.out.trans hB' | exact hB'
    simp only [beq_iff_eq, beq_eq_false_iff_ne, ne_eq] at *
    first
      | rw [act_2 N a txs (by omega)]
      | rw [act_3 N a txs (by omega)]
      | rw [act_8 N a txs (by omega)]
      | rw [act_9 N a txs (by omega)]
      | rw [act_10 N a txs (by omega)]
      | rw [act_12 N a txs (by omega)]
      | rw [act_13 N a txs (by omega)]
      | rw [act_0 N a txs (by omega)]
    go_ret
    refine ⟨?_, hO', hBB⟩
    first
      | rfl
      | (rw [if_pos (by assumption)]; rfl)
      | (rw [if_neg (by assumption)]; rfl)
end Go.Proofs.Ytfmfgckfeojfcaa
