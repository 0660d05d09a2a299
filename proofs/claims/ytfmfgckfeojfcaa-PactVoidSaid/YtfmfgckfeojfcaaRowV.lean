/- silversidelaw05.PactVoid returns true at every input, without a panic, and its argument reads behind the call as it read before. No condition. -/
import Derived.Test.YtfmfgckfeojfcaaLawV
import Derived.Test.YtfmfgckfeojfcaaRows
import Derived.WalkKit
import Derived.ProofKit
import Derived.OpenShut
import Derived.Carry
import Derived.Deep.SlicePairs
import Derived.Lib.SmallJoins
set_option linter.unusedSimpArgs false
set_option linter.unusedVariables false
namespace Go.Proofs.Ytfmfgckfeojfcaa.pactVoid
open Go.ChangeShapes Go.WideShapes Go.ChangeAt Go.RowKit

theorem laid : laidOutB Try.prog = true := by kernel_rfl
theorem own : ownKnob Try.prog.godebug = none := by kernel_rfl

/-- What is owed where nothing that lay has turned. -/
theorem post_of_below {H : Type} {enc : TypeId × Value → H} {P : Program} {f : Func} {s : ChangeSpec} {apart fresh handsOn again : Bool} {W W' : World} {args : Array Value} {v : Value} {ds gs : List (DataW H)} {before pa pv : List MemPlace}
    (hW : DataW.Whole enc P f.params.toList s.vars apart W args.toList ds gs before) (hb : Below W.heap.size W W')
    (hres : ∀ (b : Nat) (sp : Nat → Bool) (hd : Bool), DataW.TrodAll enc P W' b sp hd f.resultTypes.toList (v.resultList f.resultTypes.size) (s.fn H (ds ++ gs)).results [])
    (hargs : ∀ sp : Nat → Bool, (∀ p ∈ before, sp p.block = true) → DataW.TrodAll enc P W' 0 sp true f.params.toList args.toList (s.fn H (ds ++ gs)).args pa)
    (hvars : ∀ sp : Nat → Bool, (∀ p ∈ before, sp p.block = true) → DataW.TrodVars enc P W' sp s.vars (s.fn H (ds ++ gs)).vars pv)
    (hps : before = pa ++ pv) (hk : W.keptBut W' (· ∈ before))
    (hok : ∀ (j : Nat) (t : TypeId) (r : Value), f.resultTypes[j]? = some t → (v.resultList f.resultTypes.size)[j]? = some r → Value.okWide P W' .any 0 t r) :
    s.post enc P f apart fresh handsOn again W args v W' := by
  have hlt := fun p hp => hW.lt p hp
  have hold : ∀ p ∈ before, (fun b => decide (b < W.heap.size)) p.block = true := fun p hp => by simpa using hW.lt p hp
  refine ⟨ds, gs, before, [], pa, pv, hW, hres _ _ _, hargs _ hold, hvars _ hold, World.keptBut_mono (fun p hp => ⟨hp, ?_⟩) hk, fun _ => ?_⟩
  · rw [hps, List.mem_append] at hp
    exact Or.inr hp
  · obtain ⟨_, _, _, _, _, hz, hn⟩ := hW
    refine ⟨hok, _, _, ([] ++ pa) ++ pv, ⟨[] ++ pa, pv, trodAll_append (hargs _ (fun _ _ => rfl)) (hres _ _ _), hvars _ (fun _ _ => rfl), rfl, ?_, ?_⟩, ?_⟩
    · intro b off hp
      have hm : (MemPlace.cell b off) ∈ before := by rw [hps]; simpa using hp
      rw [hb.frozen (hlt _ hm)]
      exact hz b off hm
    · intro ha
      have := hn ha
      rw [hps] at this
      simpa using this
    · intro p hp _
      rw [hps]
      simpa using hp

/-- A slice of parts, as it came in. -/
theorem movesIn {H : Type} {enc : TypeId × Value → H} {W : World} {sp : Nat → Bool} {hd : Bool} {n : Nat} {v : Value} {y : DataW H × List MemPlace} (h : DataW.trod enc Try.prog W 0 sp hd n 32 [v] = some y) : ∃ ps, MovesIn W v ps := by
  rcases Go.Deep.open_slice_pairs Try.underlying32 Try.underlying43 (by kernel_rfl) rfl rfl (by kernel_rfl) (by kernel_rfl) h with ⟨e, _⟩ | ⟨a, len, cap, m, n', V0, V1, D0, D1, P0, P1, e, _, hl, hm, hmm, _, hx⟩
  · refine ⟨[], .inl ⟨by simpa using e, rfl⟩⟩
  · have hlm : len ≤ m := by rw [hmm]; split <;> omega
    have g0 : ∀ i, ∃ z : Int, i < m → V0 i = .int .i64 z := fun i => by
      by_cases hi : i < m
      · obtain ⟨_, _, h2, _⟩ := hx i hi
        obtain ⟨z, e, _⟩ := DataW.trod_int Try.underlying3 h2
        exact ⟨z, fun _ => by simpa using e⟩
      · exact ⟨0, fun h => absurd h hi⟩
    have g1 : ∀ i, ∃ z : Int, i < m → V1 i = .int .i64 z := fun i => by
      by_cases hi : i < m
      · obtain ⟨_, _, _, h3⟩ := hx i hi
        obtain ⟨z, e, _⟩ := DataW.trod_int Try.underlying3 h3
        exact ⟨z, fun _ => by simpa using e⟩
      · exact ⟨0, fun h => absurd h hi⟩
    obtain ⟨f0, hf0⟩ := Classical.skolem.1 g0
    obtain ⟨f1, hf1⟩ := Classical.skolem.1 g1
    refine ⟨(List.range len).map fun i => ⟨f0 i, f1 i⟩, .inr ⟨a, cap, by simpa using e, by simpa using hl, hm, fun j u hu => ?_⟩⟩
    have hjl := (List.getElem?_eq_some_iff.1 hu).1
    rw [length_flat (fun x _ => Move.cells2 x)] at hjl
    simp only [List.length_map, List.length_range] at hjl
    have hji : j / 2 < len := by omega
    have e2 : j = j / 2 * 2 + j % 2 := by omega
    rw [e2, get_flat (fun x _ => Move.cells2 x) (by omega), List.getElem?_map, List.getElem?_range hji] at hu
    obtain ⟨h0, h1, _, _⟩ := hx (j / 2) (by omega)
    have hmod : j % 2 = 0 ∨ j % 2 = 1 := by omega
    rcases hmod with e3 | e3
    · rw [e3] at hu
      have : u = .int .i64 (f0 (j / 2)) := by simpa [Move.cells] using hu.symm
      rw [e2, e3, Nat.add_zero, h0, this, hf0 _ (by omega)]
    · rw [e3] at hu
      have : u = .int .i64 (f1 (j / 2)) := by simpa [Move.cells] using hu.symm
      rw [e2, e3, h1, this, hf1 _ (by omega)]

set_option maxRecDepth 100000 in
theorem lifted (os : Os) (started : os.Started) (H : Type) (enc : TypeId × Value → H) :
    ReturnsInHanded {} Try.checked os 5 .any (Rows.pactVoidSpec.pre6 enc Try.prog Try.f5 Rows.pactVoidRow.domain false) (Rows.pactVoidSpec.post enc Try.prog Try.f5 false true false false) := by
  refine returnsInHanded_of_change (C := Try.checked) own started (by kernel_rfl) Try.func5
    (ChangeSpec.witness6 (enc := enc) (C := Try.checked) false ⟨#[], #[.agg #[.int .i64 0, .int .i64 0, .int .i64 0, .slice none 0 0]], []⟩ 8 (by kernel_rfl) (by kernel_rfl) (by kernel_rfl) (by kernel_rfl)) ?_
  intro W base args ds gs before hval0 hW hcnd _
  have hval : ∀ (j : Nat) t v, Try.f5.params[j]? = some t → args[j]? = some v → Value.okWide Try.prog W .any base t v := hval0
  have hW' := hW
  have hlt := fun x hx => hW.lt x hx
  obtain ⟨p, q, hA0, hV, rfl, hfz, hnd⟩ := hW
  have hA : DataW.TrodAll enc Try.prog W 0 (fun _ => true) true Try.f5.params.toList args.toList ds p := hA0
  rw [Try.params5] at hA hval
  obtain ⟨v0, vs0, d0, ds0, p0, q0, hargs, rfl, rfl, h0, r0⟩ := trodAll_cons hA
  obtain ⟨rfl, rfl, rfl⟩ := trodAll_nil r0
  obtain rfl : args = #[v0] := by cases args; simp_all
  obtain ⟨rfl, rfl⟩ := trodVars_none hV
  obtain ⟨c0, c1, c2, c3, y0, y1, y2, y3, n, rfl, rfl, rfl, t0, t1, t2, t3⟩ := Go.Joins.open_agg4 Try.underlying34 (by kernel_rfl) (by kernel_rfl) (hval 0 34 v0 rfl rfl) h0
  obtain ⟨k0, e0, _⟩ := DataW.trod_int Try.underlying3 t0
  obtain ⟨k1, e1, _⟩ := DataW.trod_int Try.underlying3 t1
  obtain ⟨k2, e2, _⟩ := DataW.trod_int Try.underlying3 t2
  obtain ⟨ps, hps⟩ := movesIn t3
  obtain rfl : c0 = .int .i64 k0 := by simpa using e0
  obtain rfl : c1 = .int .i64 k1 := by simpa using e1
  obtain rfl : c2 = .int .i64 k2 := by simpa using e2
  clear hA0 hval0
  simp only [List.append_nil] at hW'
  refine (pactVoid_any hps).mono fun e W' ⟨he, hg⟩ => ?_
  subst he
  refine ⟨_, rfl, post_of_below (pa := y0.2 ++ (y1.2 ++ (y2.2 ++ y3.2)) ++ []) (pv := []) hW' hg (fun _ _ _ => (trodAll_cons_mk (shut_bool Try.underlying4 _) trodAll_mk0)) (fun sp hsp => trodAll_cons_mk ?_ trodAll_mk0) (fun _ _ => rfl) (by simp)
    (hg.frame _) (ok_one (by kernel_rfl) rfl (okWide_bool_mk Try.underlying4 _))⟩
  exact WideElems.Trod_stays laid (by kernel_rfl) (of_decide_eq_true (by kernel_rfl)) h0 (fun x hx => hg.same (hlt x (by simpa using hx))) (fun x hx => hsp x (by simpa using hx))

theorem over : Rows.pactVoidRow.holds Try.pinned (OpenSpec.ofChange Rows.pactVoidSpec) :=
  OpenClaim.holds_of_wide 5 Try.f5 rfl rfl rfl rfl rfl rfl rfl ⟨rfl, rfl, rfl, rfl, rfl⟩ rfl rfl rfl rfl rfl (by kernel_rfl) Try.func5 (by kernel_rfl)
    (of_decide_eq_true (by kernel_rfl)) (by unfold Func.isWrapper; first | (rw [if_pos (by decide +kernel)]; kernel_rfl) | (rw [if_neg (by decide +kernel)]; exact ⟨rfl, rfl⟩))
    (fun os started H enc _ => lifted os started H enc)

theorem proved : Rows.PactVoidSaid := over
end Go.Proofs.Ytfmfgckfeojfcaa.pactVoid
