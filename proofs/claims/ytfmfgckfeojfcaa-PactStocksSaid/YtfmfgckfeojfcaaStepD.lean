/- Walks of package pact: is a site one of a deal's; can a change be promised. -/
import Derived.Test.YtfmfgckfeojfcaaStepC
set_option linter.unusedSimpArgs false
set_option linter.unusedVariables false
namespace Go.Proofs.Ytfmfgckfeojfcaa
open Go.RowKit Go.Maps Go.ChangeMaps

/-- slices.IndexFunc of parts: the first that the predicate takes. -/
theorem indexFunc_any {w : World} {pb cap : Nat} {ps : List Move} (hp : PartsAt w (pb, cap) ps) (hpl : ps.length ≤ 64) (bf : FuncId) (bc : Array Value) (p : Move → Bool)
    (hcall : ∀ (args : Array Value) (w : World), (callFunc bf args).run Try.prog w = .ok (.enter bf args) w)
    (hpr : ∀ W x, Below w.heap.size w W → Calls Try.prog bf (#[.agg #[.int .i64 x.site, .int .i64 x.change]] ++ bc) W fun e w' => e = .returned (.bool (p x)) ∧ Below W.heap.size W w') :
    Calls Try.prog 89 #[.slice (some ⟨pb, 0, none⟩) ps.length cap, .func (.func bf) #[] bc] w fun e w' =>
      (∃ n : Int, e = .returned (.int .i64 n) ∧ (decide (0 ≤ n) = ps.any p)) ∧ Below w.heap.size w w' := by
  have HPr := Lib.hid hpr
  have HPt := Lib.hid hp
  have hplt : pb < w.heap.size := by obtain ⟨o, ho, _⟩ := hp; exact lt_of ho
  clear hp hpr
  obtain ⟨n, hn⟩ : ∃ n, ps.length = n := ⟨_, rfl⟩
  rw [hn] at hpl ⊢
  have HN := Lib.hid hn
  clear hn
  go_enter Try.func89, Try.ntmps89
  go_wp2
  go_loopw [8] (fun i wr => ∃ k : Nat, i = .int .i64 k ∧ k ≤ n ∧ (ps.take k).any p = false ∧ Below w.heap.size w wr) (fun i _ => n - (intOf i).toNat)
  case atStart => exact ⟨0, rfl, Nat.zero_le _, by simp, Below.refl _ _⟩
  case round =>
    obtain ⟨k, rfl, hk, hany, hS⟩ := hrel
    by_cases hlt : k < n
    · have hk' : k < ps.length := by rw [HN.out]; exact hlt
      obtain ⟨x, hx⟩ : ∃ x, ps[k]? = some x := ⟨ps[k], by simp⟩
      have hpr : PartsAt wr (pb, cap) ps := by
        obtain ⟨o, ho, hr⟩ := HPt.out
        exact ⟨o, (hS.block pb hplt).trans ho, hr⟩
      have c0 := hpr.cell0 hx
      have c1 := hpr.cell1 hx
      have hfold : (ps.take (k + 1)).any p = p x := by
        rw [List.take_add_one, hx, List.any_append, hany]; simp
      have hb := HPr.out wr x hS
      have hin : x ∈ ps := List.mem_of_getElem? hx
      have HF := Lib.hid hfold
      have HA := Lib.hid hany
      have HX := Lib.hid hin
      have HS := Lib.hid hS
      clear hfold hx hpr hS hany hin
      cases hbx : p x with
      | true =>
        have HBx := Lib.hid hbx
        have hall : ps.any p = true := List.any_eq_true.2 ⟨x, HX.out, hbx⟩
        have HAll := Lib.hid hall
        clear hbx hall
        go_wp2_with fail
        refine hb.mono ?_
        rintro e w' ⟨rfl, hb2⟩
        have HB2 := Lib.hid (HS.out.trans (hb2.mono (by have := HS.out.size; omega)))
        rw [HBx.out]
        clear hb hb2 c0 c1
        go_wp2
        go_ret
        exact ⟨⟨_, rfl, by rw [HAll.out]; simp⟩, HB2.out⟩
      | false =>
        have HBx := Lib.hid hbx
        clear hbx
        go_wp2_with fail
        refine hb.mono ?_
        rintro e w' ⟨rfl, hb2⟩
        have HB2 := Lib.hid (HS.out.trans (hb2.mono (by have := HS.out.size; omega)))
        rw [HBx.out]
        clear hb hb2 c0 c1
        go_wp2
        go_roundw
        case rel => exact ⟨k + 1, by go_num, by omega, by rw [HF.out, HBx.out], HB2.out⟩
        case measure => simp [intOf]; omega
    · have hkn : k = n := by omega
      subst hkn
      have HE : Hid (ps.any p = false) := by
        have : ps.take k = ps := List.take_of_length_le (by have := HN.out; omega)
        rw [this] at hany
        exact hany
      have HS := Lib.hid hS
      clear hS hany
      go_wp2
      go_ret
      exact ⟨⟨_, rfl, by rw [HE.out]; rfl⟩, HS.out⟩

theorem containsFunc_any {w : World} {pb cap : Nat} {ps : List Move} (hp : PartsAt w (pb, cap) ps) (hpl : ps.length ≤ 64) (bf : FuncId) (bc : Array Value) (p : Move → Bool)
    (hcall : ∀ (args : Array Value) (w : World), (callFunc bf args).run Try.prog w = .ok (.enter bf args) w)
    (hpr : ∀ W x, Below w.heap.size w W → Calls Try.prog bf (#[.agg #[.int .i64 x.site, .int .i64 x.change]] ++ bc) W fun e w' => e = .returned (.bool (p x)) ∧ Below W.heap.size W w') :
    Calls Try.prog 81 #[.slice (some ⟨pb, 0, none⟩) ps.length cap, .func (.func bf) #[] bc] w fun e w' =>
      e = .returned (.bool (ps.any p)) ∧ Below w.heap.size w w' := by
  have hi := indexFunc_any hp hpl bf bc p hcall hpr
  clear hpr hp
  go_enter Try.func81, Try.ntmps81
  go_wp2_with fail
  refine hi.mono ?_
  rintro e w' ⟨⟨n, rfl, hn⟩, hb⟩
  have HN := Lib.hid hn
  have HB := Lib.hid hb
  clear hi hn hb
  go_wp2
  go_ret
  exact ⟨by rw [← HN.out]; rfl, HB.out⟩

theorem has1_any (x : Move) (W : World) (bs : Nat) (site : Int) (hc : W.cell? ⟨bs, 0, none⟩ = some (.int .i64 site)) :
    Calls Try.prog 82 #[.agg #[.int .i64 x.site, .int .i64 x.change], .pointer (some ⟨bs, 0, none⟩)] W fun e w' => e = .returned (.bool (decide (x.site = site))) ∧ Below W.heap.size W w' := by
  obtain ⟨xs, xc⟩ := x
  have hlt := World.block_lt_of_cell? W _ hc
  have hb : ∀ o, Below W.heap.size W (W.alloc o) := fun o => (Below.refl _ _).alloc (Nat.le_refl _) o
  have HB := Lib.hid hb
  clear hb
  go_enter Try.func82, Try.ntmps82
  go_wp2
  go_ret
  exact ⟨by simp only [Array.getD]; rfl, HB.out _⟩

theorem call_has1 (args : Array Value) (w : World) : (callFunc 82 args).run Try.prog w = .ok (.enter 82 args) w := by kernel_rfl

theorem has_any {w : World} {pb cap : Nat} {d : Deal} (hp : PartsAt w (pb, cap) d.parts) (hpl : d.parts.length ≤ 64) (db : Nat) (site : Int) :
    Calls Try.prog 67 #[.agg #[.slice (some ⟨pb, 0, none⟩) d.parts.length cap, .map (some db)], .int .i64 site] w fun e w' => e = .returned (.bool (d.has site)) ∧ Below w.heap.size w w' := by
  have hb : ∀ o o', Below w.heap.size w ((w.alloc o).alloc o') := fun o o' => ((Below.refl _ _).alloc (Nat.le_refl _) o).alloc (by simp) o'
  have hbox : ∀ o, ((w.alloc o).alloc (.cells #[.int .i64 site] 3)).cell? ⟨w.heap.size + 1, 0, none⟩ = some (.int .i64 site) := fun o => by
    have := World.cell?_alloc_new (w.alloc o) #[.int .i64 site] 3 0
    rw [World.size_alloc] at this; exact this
  have hc : ∀ o, Calls Try.prog 81 #[.slice (some ⟨pb, 0, none⟩) d.parts.length cap, .func (.func 82) #[] #[.pointer (some ⟨w.heap.size + 1, 0, none⟩)]] ((w.alloc o).alloc (.cells #[.int .i64 site] 3)) fun e w' =>
      e = .returned (.bool (d.has site)) ∧ Below w.heap.size w w' := fun o => by
    have hp2 : PartsAt ((w.alloc o).alloc (.cells #[.int .i64 site] 3)) (pb, cap) d.parts := by
      obtain ⟨o1, ho1, hr⟩ := hp
      exact ⟨o1, by rw [alloc_other _ _ (by simp; have := lt_of ho1; omega), alloc_other _ _ (lt_of ho1)]; exact ho1, hr⟩
    refine (containsFunc_any hp2 hpl 82 #[.pointer (some ⟨w.heap.size + 1, 0, none⟩)] (fun x => decide (x.site = site)) call_has1 (fun W x hW => has1_any x W _ site ?_)).mono ?_
    · rw [World.cell?_of_block (hW.block _ (by simp))]; exact hbox o
    · rintro e w' ⟨rfl, hb2⟩
      exact ⟨rfl, (hb o _).trans (hb2.mono (by simp; omega))⟩
  have HC := Lib.hid hc
  clear hb hbox hc hp
  go_enter Try.func67, Try.ntmps67
  go_wp2_with fail
  refine (HC.out _).mono ?_
  rintro e w' ⟨rfl, hb2⟩
  have HB := Lib.hid hb2
  clear hb2 HC
  go_wp2
  go_ret
  exact ⟨rfl, HB.out⟩

theorem sumIf_perm {neg : Bool} {a b : List (Int × (Int × Int))} (h : a.Perm b) : sumIf neg a = sumIf neg b := by
  induction h with
  | nil => rfl
  | cons x _ ih => simp [sumIf, ih]
  | swap x y l => simp [sumIf]; omega
  | trans _ _ ih1 ih2 => exact ih1.trans ih2

set_option maxRecDepth 20000 in
set_option maxHeartbeats 1000000 in
theorem possible_any {w : World} {L : Lay} {N : Net} (h : Rep w L N) {i : Nat} {s : Site} (hs : N.sites[i]? = some s) (hst : 0 ≤ s.stock ∧ s.stock ≤ 1099511627776) (c : Int) (hc : -1099511627776 ≤ c ∧ c ≤ 1099511627776)
    (hlen : s.promised.length ≤ 256) (hch : ∀ p ∈ s.promised, -1099511627776 ≤ p.2.2 ∧ p.2.2 ≤ 1099511627776) :
    Calls Try.prog 66 #[sitePtr L i, .int .i64 c] w fun e w' => e = .returned (.bool (s.possible c)) ∧ Below w.heap.size w w' := by
  obtain ⟨o, ho, hM⟩ := h.promAt hs
  have c0 := h.site0 hs
  have c2 := h.site2 hs
  obtain ⟨it, hrange, hIt⟩ := hM.range (P := Try.prog) (e := 69) Try.underlying60 w ho
  have hp0 : Hid ((s.promised).Perm s.promised) := List.Perm.refl _
  have hblt := lt_of ho
  unfold sitePtr
  have hb0 : Below w.heap.size w (w.alloc it) := (Below.refl _ _).alloc (Nat.le_refl _) it
  have HB0 := Lib.hid hb0
  have HIt := Lib.hid hIt
  have HM := Lib.hid hM
  have HO := Lib.hid ho
  have HCh := Lib.hid hch
  have hposs : s.possible c = if c < 0 then decide (0 ≤ s.stock + c + sumIf true s.promised) else decide (s.stock + c + sumIf false s.promised ≤ 1099511627776) := rfl
  have HP := Lib.hid hposs
  obtain ⟨hst1, hst2⟩ := hst
  obtain ⟨hc1, hc2⟩ := hc
  generalize hbm : L.at_ (.prom i) = bm at *
  clear hb0 hIt hM ho hch hposs h hbm
  go_enter Try.func66, Try.ntmps66
  go_wp2
  go_loopw [5] (fun x wr => ∃ (acc : Int) (rem : List (Int × (Int × Int))), x = .int .i64 acc ∧ IterAt wr (Value.int .i64) bm w.heap.size o (promV rem) ∧ rem.length ≤ 256 ∧ (∀ p ∈ rem, -1099511627776 ≤ p.2.2 ∧ p.2.2 ≤ 1099511627776) ∧
      acc + sumIf (decide (c < 0)) rem = s.stock + c + sumIf (decide (c < 0)) s.promised ∧ -2199023255552 - (256 - rem.length) * 1099511627776 ≤ acc ∧ acc ≤ 2199023255552 + (256 - rem.length) * 1099511627776 ∧ Below w.heap.size w wr) (fun _ wr => iterLeft wr bm w.heap.size)
  case atStart => exact ⟨_, _, rfl, HIt.out, hlen, HCh.out, rfl, by omega, by omega, HB0.out⟩
  case round =>
    obtain ⟨acc, rem, rfl, hit, hrl, hrc, hsum, hlo, hhi, hbw⟩ := hrel
    have hob : wr.heap[bm]? = some o := (hbw.block bm hblt).trans HO.out
    have hleft := hit.left hob
    rcases hit.next (P := Try.prog) hob HM.out with ⟨hrem, hnext⟩ | ⟨p, rem', w1, it', hperm, hw1, hnext, hit', hentry⟩
    · have hr0 : rem = [] := by simpa [promV] using hrem
      subst hr0
      have HS := Lib.hid hsum
      have HBW := Lib.hid hbw
      clear hit hsum hbw hleft hrem hrc hlo hhi hob
      by_cases hneg : c < 0
      · have hfin : s.possible c = decide (0 ≤ acc) := by
          rw [HP.out, if_pos hneg]
          have := HS.out
          simp only [sumIf, hneg, decide_true] at this
          exact decide_eq_decide.2 (by constructor <;> intro _ <;> omega)
        have HFin := Lib.hid hfin
        clear hfin
        go_wp2
        go_ret
        exact ⟨by rw [HFin.out]; rfl, HBW.out⟩
      · have hfin : s.possible c = decide (acc ≤ 1099511627776) := by
          rw [HP.out, if_neg hneg]
          have := HS.out
          simp only [sumIf, hneg, decide_false] at this
          exact decide_eq_decide.2 (by constructor <;> intro _ <;> omega)
        have HFin := Lib.hid hfin
        clear hfin
        go_wp2
        go_ret
        exact ⟨by rw [HFin.out]; rfl, HBW.out⟩
    · obtain ⟨q, l', rfl, hql, hrl'⟩ := perm_map_cons (f := fun p : Int × (Int × Int) => (p.1, Value.agg #[.int .i64 p.2.1, .int .i64 p.2.2])) hperm
      have hit2 : IterAt (setBlock w1 w.heap.size it') (Value.int .i64) bm w.heap.size o (promV l') := hit'.perm hrl'
      have hbw2 : Below w.heap.size w (setBlock w1 w.heap.size it') := by
        have h1 : Below w.heap.size w w1 := by rcases hw1 with rfl | rfl; exact hbw; exact hbw.drew
        exact h1.trans ⟨rfl, rfl, rfl, by simp [setBlock], fun b hb => heap_setBlock_ne w1 it' (by omega)⟩
      have hql2 := hql.length_eq
      have hqc := hrc q (hql.mem_iff.2 (List.mem_cons_self))
      have hrc2 : ∀ p ∈ l', -1099511627776 ≤ p.2.2 ∧ p.2.2 ≤ 1099511627776 := fun p hp => hrc p (hql.mem_iff.2 (List.mem_cons_of_mem _ hp))
      rw [sumIf_perm hql] at hsum
      obtain ⟨hqc1, hqc2⟩ := hqc
      have hszw : w.heap.size < (setBlock w1 w.heap.size it').heap.size := by
        have h1 : w.heap.size < w1.heap.size := by
          have : w.heap.size < wr.heap.size := by obtain ⟨_, _, _, _, _, h2, _⟩ := hit; exact lt_of h2
          rcases hw1 with rfl | rfl <;> exact this
        simpa [setBlock] using h1
      have hl2 : ∀ o', iterLeft ((setBlock w1 w.heap.size it').alloc o') bm w.heap.size = l'.length := fun o' => by
        have h1 : IterAt ((setBlock w1 w.heap.size it').alloc o') (Value.int .i64) bm w.heap.size o (promV l') := hit2.kept (alloc_other _ o' hszw)
        have h2 := h1.left ((alloc_other (setBlock w1 w.heap.size it') o' (by omega)).trans ((hbw2.block bm hblt).trans HO.out))
        rw [h2]; simp [promV]
      have hit3 : ∀ o', IterAt ((setBlock w1 w.heap.size it').alloc o') (Value.int .i64) bm w.heap.size o (promV l') := fun o' => hit2.kept (alloc_other _ o' hszw)
      have hbw3 : ∀ o', Below w.heap.size w ((setBlock w1 w.heap.size it').alloc o') := fun o' => hbw2.alloc (by omega) o'
      have hlr : rem.length = l'.length + 1 := by simpa using hql2
      have hleft2 : iterLeft wr bm w.heap.size = l'.length + 1 := by rw [hleft, ← hlr]; simp [promV]
      generalize setBlock w1 w.heap.size it' = w2 at *
      have H1 := Lib.hid hit3
      have H2 := Lib.hid hbw3
      have H3 := Lib.hid hl2
      have H4 := Lib.hid hrc2
      have H5 := Lib.hid hsum
      have H6 := Lib.hid hleft2
      obtain ⟨hr1, hr2⟩ : (rem.length : Int) ≤ l'.length + 1 ∧ (l'.length : Int) + 1 ≤ rem.length := by omega
      clear hit3 hbw3 hl2 hrc2 hsum hleft2 hleft hit hit' hit2 hbw hbw2 hperm hql hql2 hrl' hw1 hrc hob hlr
      obtain ⟨qk, qa, qc⟩ := q
      simp only at hqc1 hqc2 hnext hentry
      by_cases hneg : c < 0
      · by_cases hq : qc < 0
        · have hsum2 : acc + qc + sumIf (decide (c < 0)) l' = s.stock + c + sumIf (decide (c < 0)) s.promised := by
            have := H5.out; simp only [sumIf, hneg, hq, decide_true, if_true] at this ⊢; omega
          have H7 := Lib.hid hsum2
          clear hsum2
          go_wp2
          go_roundw
          case rel => exact ⟨acc + qc, l', rfl, H1.out _, by omega, H4.out, H7.out, by omega, by omega, H2.out _⟩
          case measure => rw [H3.out, H6.out]; omega
        · have hsum2 : acc + sumIf (decide (c < 0)) l' = s.stock + c + sumIf (decide (c < 0)) s.promised := by
            have := H5.out; simp only [sumIf, hneg, hq, decide_true, decide_false, Bool.false_eq_true, if_false] at this ⊢; omega
          have H7 := Lib.hid hsum2
          clear hsum2
          go_wp2
          go_roundw
          case rel => exact ⟨acc, l', rfl, H1.out _, by omega, H4.out, H7.out, by omega, by omega, H2.out _⟩
          case measure => rw [H3.out, H6.out]; omega
      · by_cases hq : qc < 0
        · have hsum2 : acc + sumIf (decide (c < 0)) l' = s.stock + c + sumIf (decide (c < 0)) s.promised := by
            have := H5.out; simp only [sumIf, hneg, hq, decide_true, decide_false, Bool.true_eq_false, if_false] at this ⊢; omega
          have H7 := Lib.hid hsum2
          clear hsum2
          go_wp2
          go_roundw
          case rel => exact ⟨acc, l', rfl, H1.out _, by omega, H4.out, H7.out, by omega, by omega, H2.out _⟩
          case measure => rw [H3.out, H6.out]; omega
        · have hsum2 : acc + qc + sumIf (decide (c < 0)) l' = s.stock + c + sumIf (decide (c < 0)) s.promised := by
            have := H5.out; simp only [sumIf, hneg, hq, decide_false, if_true] at this ⊢; omega
          have H7 := Lib.hid hsum2
          clear hsum2
          go_wp2
          go_roundw
          case rel => exact ⟨acc + qc, l', rfl, H1.out _, by omega, H4.out, H7.out, by omega, by omega, H2.out _⟩
          case measure => rw [H3.out, H6.out]; omega
end Go.Proofs.Ytfmfgckfeojfcaa
