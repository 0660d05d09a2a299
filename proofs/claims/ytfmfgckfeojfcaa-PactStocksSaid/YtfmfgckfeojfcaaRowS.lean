/- silversidelaw05.PactSettles returns true at every input, without a panic, and its arguments read behind the call as they read before. No condition. -/
import Derived.Test.YtfmfgckfeojfcaaLawF
import Derived.Test.YtfmfgckfeojfcaaRows
import Derived.WalkKit
import Derived.ProofKit
import Derived.OpenShut
import Derived.Carry
import Derived.Deep.SlicePairs
import Derived.Lib.SmallJoins
set_option linter.unusedSimpArgs false
set_option linter.unusedVariables false
namespace Go.Proofs.Ytfmfgckfeojfcaa.pactSettles
open Go.ChangeShapes Go.WideShapes Go.ChangeAt Go.RowKit

theorem laid : laidOutB Try.prog = true := by kernel_rfl
theorem own : ownKnob Try.prog.godebug = none := by kernel_rfl

/-- What is owed where nothing that lay has turned. -/
theorem post_of_below {H : Type} {enc : TypeId × Value → H} {P : Program} {f : Func} {s : ChangeSpec} {apart fresh handsOn again : Bool} {W W' : World} {args : Array Value} {v : Value} {ds gs : List (DataW H)} {before pa pv : List MemPlace}
    (hW : DataW.Whole enc P f.params.toList s.vars apart W args.toList ds gs before) (hb : Below W.heap.size W W')
    (hres : ∀ (b : Nat) (sp : Nat → Bool) (hd : Bool), DataW.TrodAll enc P W' b sp hd f.resultTypes.toList (v.resultList f.resultTypes.size) (s.fn H (ds ++ gs)).results [])
    (hargs : ∀ sp : Nat → Bool, (∀ p ∈ before, sp p.block = true) → DataW.TrodAll enc P W' 0 sp true f.params.toList args.toList (s.fn H (ds ++ gs)).args pa)
    (hvars : ∀ sp : Nat → Bool, (∀ p ∈ before, sp p.block = true) → DataW.TrodVars enc P W' sp s.vars (s.fn H (ds ++ gs)).vars pv)
    (hps : before = pa ++ pv) (hk : W.keptBut W' (· ∈ before))
    (hok : ∀ (j : Nat) (t : TypeId) (r : Value), f.resultTypes[j]? = some t → (v.resultList f.resultTypes.size)[j]? = some r → Value.okWide P W' .any 0 t r) :
    s.post enc P f apart fresh handsOn again W args v W' := by
  have hlt := fun p hp => hW.lt p hp
  have hold : ∀ p ∈ before, (fun b => decide (b < W.heap.size)) p.block = true := fun p hp => by simpa using hW.lt p hp
  refine ⟨ds, gs, before, [], pa, pv, hW, hres _ _ _, hargs _ hold, hvars _ hold, World.keptBut_mono (fun p hp => ⟨hp, ?_⟩) hk, fun _ => ?_⟩
  · rw [hps, List.mem_append] at hp
    exact Or.inr hp
  · obtain ⟨_, _, _, _, _, hz, hn⟩ := hW
    refine ⟨hok, _, _, ([] ++ pa) ++ pv, ⟨[] ++ pa, pv, trodAll_append (hargs _ (fun _ _ => rfl)) (hres _ _ _), hvars _ (fun _ _ => rfl), rfl, ?_, ?_⟩, ?_⟩
    · intro b off hp
      have hm : (MemPlace.cell b off) ∈ before := by rw [hps]; simpa using hp
      rw [hb.frozen (hlt _ hm)]
      exact hz b off hm
    · intro ha
      have := hn ha
      rw [hps] at this
      simpa using this
    · intro p hp _
      rw [hps]
      simpa using hp

/-- A slice of parts, as it came in. -/
theorem movesIn {H : Type} {enc : TypeId × Value → H} {W : World} {sp : Nat → Bool} {hd : Bool} {n : Nat} {v : Value} {y : DataW H × List MemPlace} (h : DataW.trod enc Try.prog W 0 sp hd n 32 [v] = some y) : ∃ ps, MovesIn W v ps := by
  rcases Go.Deep.open_slice_pairs Try.underlying32 Try.underlying43 (by kernel_rfl) rfl rfl (by kernel_rfl) (by kernel_rfl) h with ⟨e, _⟩ | ⟨a, len, cap, m, n', V0, V1, D0, D1, P0, P1, e, _, hl, hm, hmm, _, hx⟩
  · refine ⟨[], .inl ⟨by simpa using e, rfl⟩⟩
  · have hlm : len ≤ m := by rw [hmm]; split <;> omega
    have g0 : ∀ i, ∃ z : Int, i < m → V0 i = .int .i64 z := fun i => by
      by_cases hi : i < m
      · obtain ⟨_, _, h2, _⟩ := hx i hi
        obtain ⟨z, e, _⟩ := DataW.trod_int Try.underlying3 h2
        exact ⟨z, fun _ => by simpa using e⟩
      · exact ⟨0, fun h => absurd h hi⟩
    have g1 : ∀ i, ∃ z : Int, i < m → V1 i = .int .i64 z := fun i => by
      by_cases hi : i < m
      · obtain ⟨_, _, _, h3⟩ := hx i hi
        obtain ⟨z, e, _⟩ := DataW.trod_int Try.underlying3 h3
        exact ⟨z, fun _ => by simpa using e⟩
      · exact ⟨0, fun h => absurd h hi⟩
    obtain ⟨f0, hf0⟩ := Classical.skolem.1 g0
    obtain ⟨f1, hf1⟩ := Classical.skolem.1 g1
    refine ⟨(List.range len).map fun i => ⟨f0 i, f1 i⟩, .inr ⟨a, cap, by simpa using e, by simpa using hl, hm, fun j u hu => ?_⟩⟩
    have hjl := (List.getElem?_eq_some_iff.1 hu).1
    rw [length_flat (fun x _ => Move.cells2 x)] at hjl
    simp only [List.length_map, List.length_range] at hjl
    have hji : j / 2 < len := by omega
    have e2 : j = j / 2 * 2 + j % 2 := by omega
    rw [e2, get_flat (fun x _ => Move.cells2 x) (by omega), List.getElem?_map, List.getElem?_range hji] at hu
    obtain ⟨h0, h1, _, _⟩ := hx (j / 2) (by omega)
    have hmod : j % 2 = 0 ∨ j % 2 = 1 := by omega
    rcases hmod with e3 | e3
    · rw [e3] at hu
      have : u = .int .i64 (f0 (j / 2)) := by simpa [Move.cells] using hu.symm
      rw [e2, e3, Nat.add_zero, h0, this, hf0 _ (by omega)]
    · rw [e3] at hu
      have : u = .int .i64 (f1 (j / 2)) := by simpa [Move.cells] using hu.symm
      rw [e2, e3, h1, this, hf1 _ (by omega)]

/-- A slice of numbers, as it came in. -/
theorem intsIn {H : Type} {enc : TypeId × Value → H} {W : World} {sp : Nat → Bool} {hd : Bool} {fuel n c : Nat} {oa : Option Addr} {y : DataW H × List MemPlace} (h : DataW.trod enc Try.prog W 0 sp hd fuel 22 [.slice oa n c] = some y) : ∃ l, IntsIn W oa n c l := by
  rcases Go.Deep.open_slice1 Try.underlying22 (by kernel_rfl) h with ⟨e, _⟩ | ⟨a, len, cap, m, n', V, D, P, e, _, hl, hm, hmm, _, hx⟩
  · obtain ⟨rfl, rfl, rfl⟩ : oa = none ∧ n = 0 ∧ c = 0 := by simpa using e
    exact ⟨[], rfl, Nat.le_refl _, by decide, fun j x hj => by simp at hj, fun x hx => by simp at hx⟩
  · obtain ⟨rfl, rfl, rfl⟩ : oa = some a ∧ n = len ∧ c = cap := by simpa using e
    have hlm : n ≤ m := by rw [hmm]; split <;> omega
    have g0 : ∀ i, ∃ z : Int, i < m → V i = .int .i64 z ∧ i64 z := fun i => by
      by_cases hi : i < m
      · obtain ⟨_, h2⟩ := hx i hi
        obtain ⟨z, e, _, hw⟩ := DataW.trod_int Try.underlying3 h2
        exact ⟨z, fun _ => ⟨by simpa using e, bounds_i64 hw⟩⟩
      · exact ⟨0, fun h => absurd h hi⟩
    obtain ⟨f0, hf0⟩ := Classical.skolem.1 g0
    refine ⟨(List.range n).map f0, by simp, hl, hm, fun j x hj => ?_, fun x hx => ?_⟩
    · have hjl := (List.getElem?_eq_some_iff.1 hj).1
      simp only [List.length_map, List.length_range] at hjl
      rw [List.getElem?_map, List.getElem?_range hjl] at hj
      simp only [Option.map_some, Option.some.injEq] at hj
      refine ⟨a, rfl, ?_⟩
      rw [(hx j (by omega)).1, (hf0 j (by omega)).1, hj]
    · obtain ⟨j, hj, rfl⟩ := List.mem_map.1 hx
      have := List.mem_range.1 hj
      exact (hf0 j (by omega)).2

theorem open_cells4 {H : Type} {enc : TypeId × Value → H} {P : Program} {w : World} {base : Nat} {spare : Nat → Bool} {held : Bool} {t : TypeId} {f0 f1 f2 f3 : Field} {fuel : Nat} {c0 c1 c2 c3 : Value} {x : DataW H × List MemPlace} (hs : P.underlying t = some (.struct #[f0, f1, f2, f3])) (hone : Go.Deep.oneCellFields P #[f0, f1, f2, f3] = true)
    (h : DataW.trod enc P w base spare held fuel t [c0, c1, c2, c3] = some x) : ∃ (y0 y1 y2 y3 : DataW H × List MemPlace) (n : Nat),
      DataW.trod enc P w base spare held n f0.type [c0] = some y0 ∧ DataW.trod enc P w base spare held n f1.type [c1] = some y1 ∧ DataW.trod enc P w base spare held n f2.type [c2] = some y2 ∧ DataW.trod enc P w base spare held n f3.type [c3] = some y3 := by
  obtain ⟨y0, y1, y2, y3, n, hx, _, h0, h1, h2, h3⟩ := Go.Joins.trod_struct4 hs h
  obtain ⟨o0, k0⟩ := Go.Deep.hone_of hone 0 f0 rfl
  obtain ⟨o1, k1⟩ := Go.Deep.hone_of hone 1 f1 rfl
  obtain ⟨o2, k2⟩ := Go.Deep.hone_of hone 2 f2 rfl
  obtain ⟨o3, k3⟩ := Go.Deep.hone_of hone 3 f3 rfl
  exact ⟨y0, y1, y2, y3, n, by simpa [o0, k0] using h0, by simpa [o1, k1] using h1, by simpa [o2, k2] using h2, by simpa [o3, k3] using h3⟩
/-- A slice of calls, as it came in. -/
theorem actsIn {H : Type} {enc : TypeId × Value → H} {W : World} {sp : Nat → Bool} {hd : Bool} {fuel n c : Nat} {oa : Option Addr} {y : DataW H × List MemPlace} (h : DataW.trod enc Try.prog W 0 sp hd fuel 23 [.slice oa n c] = some y) : ∃ l, ActsIn W oa n c l := by
  rcases Go.Deep.open_slice Try.underlying23 h with ⟨e, _⟩ | ⟨a, len, cap, m, n', D, P, e, _, hl, hm, hmm, _, hx⟩
  · obtain ⟨rfl, rfl, rfl⟩ : oa = none ∧ n = 0 ∧ c = 0 := by simpa using e
    exact ⟨[], rfl, Nat.le_refl _, by decide, fun j x hj => by simp at hj⟩
  · obtain ⟨rfl, rfl, rfl⟩ : oa = some a ∧ n = len ∧ c = cap := by simpa using e
    have hlm : n ≤ m := by rw [hmm]; split <;> omega
    have hce : Try.prog.cellsOf 34 = 4 := by kernel_rfl
    have g0 : ∀ i, ∃ z : Act, i < m → i64 z.n ∧ ∃ v, W.cell? (a.add (i * 4)) = some (.int .i64 z.kind) ∧ W.cell? (a.add (i * 4 + 1)) = some (.int .i64 z.site) ∧ W.cell? (a.add (i * 4 + 2)) = some (.int .i64 z.n) ∧ W.cell? (a.add (i * 4 + 3)) = some v ∧ MovesIn W v z.parts := fun i => by
      by_cases hi : i < m
      · obtain ⟨cs, h1, h2⟩ := hx i hi
        rw [hce] at h1
        obtain ⟨_, hlen, hcell⟩ := World.cells?_some h1
        obtain ⟨c0, c1, c2, c3, rfl⟩ : ∃ c0 c1 c2 c3, cs = [c0, c1, c2, c3] := by
          match cs, hlen with
          | [c0, c1, c2, c3], _ => exact ⟨c0, c1, c2, c3, rfl⟩
        obtain ⟨y0, y1, y2, y3, k, t0, t1, t2, t3⟩ := open_cells4 Try.underlying34 (by kernel_rfl) h2
        have e0 := hcell 0 (by decide)
        have e1 := hcell 1 (by decide)
        have e2 := hcell 2 (by decide)
        have e3 := hcell 3 (by decide)
        rw [Go.Deep.add_add] at e0 e1 e2 e3
        obtain ⟨k0, q0, _⟩ := DataW.trod_int Try.underlying3 t0
        obtain ⟨k1, q1, _⟩ := DataW.trod_int Try.underlying3 t1
        obtain ⟨k2, q2, _, hw⟩ := DataW.trod_int Try.underlying3 t2
        obtain ⟨ps, hps⟩ := movesIn t3
        obtain rfl : c0 = .int .i64 k0 := by simpa using q0
        obtain rfl : c1 = .int .i64 k1 := by simpa using q1
        obtain rfl : c2 = .int .i64 k2 := by simpa using q2
        exact ⟨⟨k0, k1, k2, ps⟩, fun _ => ⟨bounds_i64 hw, c3, by simpa using e0, by simpa using e1, by simpa using e2, by simpa using e3, hps⟩⟩
      · exact ⟨⟨0, 0, 0, []⟩, fun h => absurd h hi⟩
    obtain ⟨f0, hf0⟩ := Classical.skolem.1 g0
    refine ⟨(List.range n).map f0, by simp, hl, hm, fun j x hj => ?_⟩
    have hjl := (List.getElem?_eq_some_iff.1 hj).1
    simp only [List.length_map, List.length_range] at hjl
    rw [List.getElem?_map, List.getElem?_range hjl] at hj
    simp only [Option.map_some, Option.some.injEq] at hj
    subst hj
    obtain ⟨g1, v, g2⟩ := hf0 j (by omega)
    exact ⟨g1, a, v, rfl, g2⟩

set_option maxRecDepth 100000 in
theorem lifted (os : Os) (started : os.Started) (H : Type) (enc : TypeId × Value → H) :
    ReturnsInHanded {} Try.checked os 3 .any (Rows.pactSettlesSpec.pre6 enc Try.prog Try.f3 Rows.pactSettlesRow.domain false) (Rows.pactSettlesSpec.post enc Try.prog Try.f3 false true false false) := by
  refine returnsInHanded_of_change (C := Try.checked) own started (by kernel_rfl) Try.func3
    (ChangeSpec.witness6 (enc := enc) (C := Try.checked) false ⟨#[], #[.slice none 0 0, .slice none 0 0, .slice none 0 0], []⟩ 8 (by kernel_rfl) (by kernel_rfl) (by kernel_rfl) (by kernel_rfl)) ?_
  intro W base args ds gs before hval0 hW hcnd _
  have hval : ∀ (j : Nat) t v, Try.f3.params[j]? = some t → args[j]? = some v → Value.okWide Try.prog W .any base t v := hval0
  have hW' := hW
  have hlt := fun x hx => hW.lt x hx
  obtain ⟨p, q, hA0, hV, rfl, hfz, hnd⟩ := hW
  have hA : DataW.TrodAll enc Try.prog W 0 (fun _ => true) true Try.f3.params.toList args.toList ds p := hA0
  rw [Try.params3] at hA hval
  obtain ⟨v0, vs0, d0, ds0, p0, q0, hargs, rfl, rfl, h0, r0⟩ := trodAll_cons hA
  obtain ⟨v1, vs1, d1, ds1, p1, q1, rfl, rfl, rfl, h1, r1⟩ := trodAll_cons r0
  obtain ⟨v2, vs2, d2, ds2, p2, q2, rfl, rfl, rfl, h2, r2⟩ := trodAll_cons r1
  obtain ⟨rfl, rfl, rfl⟩ := trodAll_nil r2
  obtain rfl : args = #[v0, v1, v2] := by cases args; simp_all
  obtain ⟨rfl, rfl⟩ := trodVars_none hV
  obtain ⟨oa, on, oc, rfl⟩ := okWide_slice Try.underlying22 (hval 0 22 v0 rfl rfl)
  obtain ⟨ob, bn, bc, rfl⟩ := okWide_slice Try.underlying23 (hval 1 23 v1 rfl rfl)
  obtain ⟨od, dn, dc, rfl⟩ := okWide_slice Try.underlying22 (hval 2 22 v2 rfl rfl)
  obtain ⟨f0, t0⟩ := h0
  obtain ⟨f1, t1⟩ := h1
  obtain ⟨f2, t2⟩ := h2
  obtain ⟨l, hl⟩ := intsIn (by simpa [Value.cells] using t0)
  obtain ⟨acts, ha⟩ := actsIn (by simpa [Value.cells] using t1)
  obtain ⟨ord, hd⟩ := intsIn (by simpa [Value.cells] using t2)
  have h0 : DataW.Trod enc Try.prog W 0 (fun _ => true) true 22 (.slice oa on oc) d0 p0 := ⟨f0, t0⟩
  have h1 : DataW.Trod enc Try.prog W 0 (fun _ => true) true 23 (.slice ob bn bc) d1 p1 := ⟨f1, t1⟩
  have h2 : DataW.Trod enc Try.prog W 0 (fun _ => true) true 22 (.slice od dn dc) d2 p2 := ⟨f2, t2⟩
  clear hA0 hval0
  simp only [List.append_nil] at hW'
  refine (pactSettles_any hl ha hd).mono fun e W' ⟨he, hg⟩ => ?_
  subst he
  refine ⟨_, rfl, post_of_below (pa := p0 ++ (p1 ++ (p2 ++ []))) (pv := []) hW' hg (fun _ _ _ => (trodAll_cons_mk (shut_bool Try.underlying4 _) trodAll_mk0)) (fun sp hsp => trodAll_cons_mk ?_ (trodAll_cons_mk ?_ (trodAll_cons_mk ?_ trodAll_mk0))) (fun _ _ => rfl) (by simp)
    (hg.frame _) (ok_one (by kernel_rfl) rfl (okWide_bool_mk Try.underlying4 _))⟩
  · exact WideElems.Trod_stays laid (by kernel_rfl) (of_decide_eq_true (by kernel_rfl)) h0 (fun x hx => hg.same (hlt x (by simp [hx]))) (fun x hx => hsp x (by simp [hx]))
  · exact WideElems.Trod_stays laid (by kernel_rfl) (of_decide_eq_true (by kernel_rfl)) h1 (fun x hx => hg.same (hlt x (by simp [hx]))) (fun x hx => hsp x (by simp [hx]))
  · exact WideElems.Trod_stays laid (by kernel_rfl) (of_decide_eq_true (by kernel_rfl)) h2 (fun x hx => hg.same (hlt x (by simp [hx]))) (fun x hx => hsp x (by simp [hx]))

theorem over : Rows.pactSettlesRow.holds Try.pinned (OpenSpec.ofChange Rows.pactSettlesSpec) :=
  OpenClaim.holds_of_wide 3 Try.f3 rfl rfl rfl rfl rfl rfl rfl ⟨rfl, rfl, rfl, rfl, rfl⟩ rfl rfl rfl rfl rfl (by kernel_rfl) Try.func3 (by kernel_rfl)
    (of_decide_eq_true (by kernel_rfl)) (by unfold Func.isWrapper; first | (rw [if_pos (by decide +kernel)]; kernel_rfl) | (rw [if_neg (by decide +kernel)]; exact ⟨rfl, rfl⟩))
    (fun os started H enc _ => lifted os started H enc)

theorem proved : Rows.PactSettlesSaid := over
end Go.Proofs.Ytfmfgckfeojfcaa.pactSettles
