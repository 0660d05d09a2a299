/- Walks of package pact: New. -/
import Derived.Test.YtfmfgckfeojfcaaStepQ
set_option linter.unusedSimpArgs false
set_option linter.unusedVariables false
namespace Go.Proofs.Ytfmfgckfeojfcaa
open Go.RowKit Go.Maps Go.ChangeMaps

def freshCells (mb : Nat → Nat) (x : Int × Nat) : List Value :=
  [.int .i64 x.1, .bool false, .map (some (mb x.2)), .map (some (mb x.2 + 1)), .map (some (mb x.2 + 2)), .map (some (mb x.2 + 3)), .map (some (mb x.2 + 4))]

/-- What New has made so far. -/
structure Made (base : Nat) (w : World) (bn : Nat) (v : Value) (mb : Nat → Nat) (l : List Int) : Prop where
  net : w.heap[bn]? = some (.cells #[v, .slice none 0 0, .int .i64 0] 50 (0, 0))
  own : w.ownsRow base 64 7 v l.length (l.zipIdx.flatMap (freshCells mb))
  maps : ∀ i, i < l.length → ∀ j, j < 5 → w.heap[mb i + j]? = some (.map #[] 0)
  base : base ≤ bn
  low : ∀ i, i < l.length → bn < mb i
  rise : ∀ i j, i < j → j < l.length → mb i + 5 ≤ mb j
  apart : ∀ k, v.ownBlock = some k → k ≠ bn ∧ ∀ i, i < l.length → ∀ j, j < 5 → k ≠ mb i + j

theorem flatMap_fresh {mb mb' : Nat → Nat} {l : List Int} (h : ∀ i, i < l.length → mb' i = mb i) : l.zipIdx.flatMap (freshCells mb') = l.zipIdx.flatMap (freshCells mb) := by
  rw [List.flatMap_def, List.flatMap_def]
  congr 1
  refine List.map_congr_left fun x hx => ?_
  have := (List.mem_zipIdx hx).2.1
  unfold freshCells
  rw [h x.2 (by omega)]

theorem Made.lt {base bn : Nat} {w : World} {v : Value} {mb : Nat → Nat} {l : List Int} (h : Made base w bn v mb l) : bn < w.heap.size := lt_of h.net
theorem Made.maps_lt {base bn : Nat} {w : World} {v : Value} {mb : Nat → Nat} {l : List Int} (h : Made base w bn v mb l) {i : Nat} (hi : i < l.length) : mb i + 5 ≤ w.heap.size := by
  have := lt_of (h.maps i hi 4 (by omega)); omega

/-- The world behind the making of a site. -/
def siteMade (w : World) (st : Int) : World :=
  (((((w.alloc (.map #[] 0)).alloc (.map #[] 0)).alloc (.map #[] 0)).alloc (.map #[] 0)).alloc (.map #[] 0)).alloc
    (.cells #[.int .i64 st, .bool false, .map (some w.heap.size), .map (some (w.heap.size + 1)), .map (some (w.heap.size + 2)), .map (some (w.heap.size + 3)), .map (some (w.heap.size + 4))] 64)
theorem siteMade_size (w : World) (st : Int) : (siteMade w st).heap.size = w.heap.size + 6 := by simp [siteMade]
theorem siteMade_old (w : World) (st : Int) {b : Nat} (hb : b < w.heap.size) : (siteMade w st).heap[b]? = w.heap[b]? := by
  unfold siteMade
  rw [alloc_other _ _ (by simp; omega), alloc_other _ _ (by simp; omega), alloc_other _ _ (by simp; omega), alloc_other _ _ (by simp; omega), alloc_other _ _ (by simp; omega), alloc_other _ _ hb]
theorem siteMade_map (w : World) (st : Int) {j : Nat} (hj : j < 5) : (siteMade w st).heap[w.heap.size + j]? = some (.map #[] 0) := by
  have e : j = 0 ∨ j = 1 ∨ j = 2 ∨ j = 3 ∨ j = 4 := by omega
  unfold siteMade
  simp only [World.alloc, Array.getElem?_push, Array.size_push]
  rcases e with rfl | rfl | rfl | rfl | rfl <;> simp <;> omega
theorem siteMade_row (w : World) (st : Int) : (siteMade w st).heap[w.heap.size + 5]? = some (.cells (freshCells (fun _ => w.heap.size) (st, 0)).toArray 64 (0, 0)) := by
  unfold siteMade
  simp only [World.alloc, Array.getElem?_push, Array.size_push]
  simp
  rfl

theorem Made.step {base bn : Nat} {w w1 : World} {v v' : Value} {mb : Nat → Nat} {l : List Int} (h : Made base w bn v mb l) (st : Int)
    (hown : w1.ownsRow base 64 7 v' (l.length + 1) (l.zipIdx.flatMap (freshCells mb) ++ freshCells (fun _ => w.heap.size) (st, 0))) (hg : (siteMade w st).grownBy w1 v.ownBlock)
    (hloc : v'.ownBlock = v.ownBlock ∨ v'.ownBlock = some (siteMade w st).heap.size) :
    Made base (w1.setCell ⟨bn, 0, none⟩ v') bn v' (fun i => if i < l.length then mb i else w.heap.size) (l ++ [st]) := by
  have hlt := h.lt
  have hsz := siteMade_size w st
  have hnet1 : w1.heap[bn]? = some (.cells #[v, .slice none 0 0, .int .i64 0] 50 (0, 0)) := by
    rw [hg.block bn (by omega) (fun e => (h.apart _ e.symm).1 rfl), siteMade_old w st hlt]; exact h.net
  have hap : ∀ k, v'.ownBlock = some k → k ≠ bn ∧ (∀ i, i < l.length → ∀ j, j < 5 → k ≠ mb i + j) ∧ ∀ j, j < 5 → k ≠ w.heap.size + j := fun k hk => by
    rcases hloc with e | e
    · rw [e] at hk
      refine ⟨(h.apart k hk).1, (h.apart k hk).2, fun j hj => ?_⟩
      have := (h.own.lt k hk).2
      omega
    · rw [e] at hk; cases hk
      exact ⟨by omega, fun i hi j hj => by have := h.maps_lt hi; omega, fun j hj => by omega⟩
  have hkeep : ∀ b, b < w.heap.size + 5 → b ≠ bn → some b ≠ v.ownBlock → (w1.setCell ⟨bn, 0, none⟩ v').heap[b]? = (siteMade w st).heap[b]? := fun b hb hne hv => by
    rw [setCell_other w1 _ v' hne, hg.block b (by omega) hv]
  have hlen : (l ++ [st]).length = l.length + 1 := by simp
  refine ⟨?_, ?_, ?_, h.base, ?_, ?_, ?_⟩
  · exact setCell_same hnet1 v'
  · rw [hlen]
    have e : (l ++ [st]).zipIdx.flatMap (freshCells fun i => if i < l.length then mb i else w.heap.size) = l.zipIdx.flatMap (freshCells mb) ++ freshCells (fun _ => w.heap.size) (st, 0) := by
      rw [List.zipIdx_append, List.flatMap_append, flatMap_fresh (mb := mb) (fun i hi => by simp [hi])]
      congr 1
      simp [freshCells]
    rw [e]
    refine ⟨hown.1, ?_⟩
    rcases hown.2 with h0 | ⟨g, cap, cur, e1, hbg, hg1, h2⟩
    · exact .inl h0
    · refine .inr ⟨g, cap, cur, e1, hbg, ?_, h2⟩
      rw [setCell_other w1 _ v' (hap g (by rw [e1]; rfl)).1]
      exact hg1
  · intro i hi j hj
    rw [hlen] at hi
    by_cases e : i < l.length
    · simp only [e, if_true]
      have h1 := h.maps_lt e
      have h2 := h.low i e
      rw [hkeep _ (by omega) (by omega) (fun e1 => (h.apart _ e1.symm).2 i e j hj rfl), siteMade_old w st (by omega)]
      exact h.maps i e j hj
    · simp only [e, if_false]
      rw [hkeep _ (by omega) (by omega) (fun e1 => by have := (h.own.lt _ e1.symm).2; omega)]
      exact siteMade_map w st hj
  · intro i hi
    rw [hlen] at hi
    by_cases e : i < l.length
    · simp only [e, if_true]; exact h.low i e
    · simp only [e, if_false]; exact hlt
  · intro i j hij hj
    rw [hlen] at hj
    have hi : i < l.length := by omega
    simp only [hi, if_true]
    by_cases e : j < l.length
    · simp only [e, if_true]; exact h.rise i j hij e
    · simp only [e, if_false]; exact h.maps_lt hi
  · intro k hk
    obtain ⟨h1, h2, h3⟩ := hap k hk
    refine ⟨h1, fun i hi j hj => ?_⟩
    by_cases e : i < l.length
    · simp only [e, if_true]; exact h2 i e j hj
    · simp only [e, if_false]; exact h3 j hj

/-- What New has made is a net. -/
theorem Made.rep {base bn : Nat} {w : World} {v : Value} {mb : Nat → Nat} {l : List Int} (h : Made base w bn v mb l) (hl : 0 < l.length) :
    ∃ L, netPtr L = .pointer (some ⟨bn, 0, none⟩) ∧ Rep w L (Net.new l) ∧ ∀ b, Mut L (Net.new l) b → base ≤ b := by
  rcases isRow_of_owns h.own with ⟨_, e, _⟩ | ⟨g, cap, o, rfl, hbg, hgo, hr⟩
  · omega
  obtain ⟨hgb, hgm⟩ := h.apart g rfl
  have hsites : (Net.new l).sites = l.map Site.fresh := rfl
  have hlen : (Net.new l).sites.length = l.length := by simp [hsites]
  have hsd : (Net.new l).sd = l.map fun st => (st, false) := by simp [Net.sd, hsites, Site.fresh]
  have hsdl : (Net.new l).sd.length = l.length := by simp [hsd]
  have hdeal : ∀ g i tx, (Net.new l).deal g i tx = none := fun g i tx => by
    unfold Net.deal Net.deals
    rw [hsites, List.getElem?_map]
    cases l[i]? with
    | none => rfl
    | some st => cases g <;> rfl
  let L : Lay := ⟨fun t => match t with
    | .net => bn
    | .sites => g
    | .mail => 0
    | .prom i => mb i
    | .kept i => mb i + 1
    | .drop i => mb i + 2
    | .deals true i => mb i + 3
    | .deals false i => mb i + 4
    | .done _ _ _ => 0, cap, 0, fun _ _ _ => (0, 0)⟩
  have hlive : ∀ t, Live L (Net.new l) t → t = .net ∨ t = .sites ∨ ∃ i, i < l.length ∧ ∃ j, j < 5 ∧ L.at_ t = mb i + j ∧ t = (match j with | 0 => Tag.prom i | 1 => .kept i | 2 => .drop i | 3 => .deals true i | _ => .deals false i) := fun t ht => by
    cases t with
    | net => exact .inl rfl
    | sites => exact .inr (.inl rfl)
    | mail => exact absurd ht (Nat.lt_irrefl 0)
    | prom i => exact .inr (.inr ⟨i, by rw [← hlen]; exact ht, 0, by omega, rfl, rfl⟩)
    | kept i => exact .inr (.inr ⟨i, by rw [← hlen]; exact ht, 1, by omega, rfl, rfl⟩)
    | drop i => exact .inr (.inr ⟨i, by rw [← hlen]; exact ht, 2, by omega, rfl, rfl⟩)
    | deals b i => cases b with
      | true => exact .inr (.inr ⟨i, by rw [← hlen]; exact ht, 3, by omega, rfl, rfl⟩)
      | false => exact .inr (.inr ⟨i, by rw [← hlen]; exact ht, 4, by omega, rfl, rfl⟩)
    | done g i tx => simp [Live, hdeal] at ht
  have hat : ∀ i (hi : i < l.length), (Net.new l).sites[i]? = some (Site.fresh l[i]) := fun i hi => by rw [hsites, List.getElem?_map, List.getElem?_eq_getElem hi]; rfl
  refine ⟨L, rfl, ⟨fun t ht => ?_, fun t t' ht ht' e => ?_, fun g i tx d hd => ?_, fun g i tx d t hd => ?_, Nat.le_refl 0⟩, fun b hb => ?_⟩
  · rcases hlive t ht with rfl | rfl | ⟨i, hi, j, hj, e1, e2⟩
    · refine ⟨_, h.net, ?_⟩
      show _ = _
      rw [hsdl]; rfl
    · refine ⟨o, hgo, ?_⟩
      show IsRow _ 7 _ _ _ _
      rw [hsdl, hsd, List.zipIdx_map, List.flatMap_map]
      exact hr
    · refine ⟨_, (by rw [e1]; exact h.maps i hi j hj), ?_⟩
      subst e2
      have hs := hat i hi
      have ej : j = 0 ∨ j = 1 ∨ j = 2 ∨ j = 3 ∨ j = 4 := by omega
      rcases ej with rfl | rfl | rfl | rfl | rfl
      · exact ⟨[], by simp [Net.proms, hs, Site.fresh], mapObj_empty⟩
      · exact ⟨[], by simp [Net.kepts, hs, Site.fresh], mapObj_empty⟩
      · exact ⟨[], by simp [Net.drops, hs, Site.fresh], mapObj_empty⟩
      · exact ⟨[], by simp [Net.deals, hs, Site.fresh, Site.deals], mapObj_empty⟩
      · exact ⟨[], by simp [Net.deals, hs, Site.fresh, Site.deals], mapObj_empty⟩
  · have far : ∀ i j i' j', i < l.length → i' < l.length → j < 5 → j' < 5 → mb i + j = mb i' + j' → i = i' ∧ j = j' := fun i j i' j' hi hi' hj hj' e => by
      rcases Nat.lt_trichotomy i i' with h1 | h1 | h1
      · have := h.rise i i' h1 hi'; omega
      · subst h1; exact ⟨rfl, by omega⟩
      · have := h.rise i' i h1 hi; omega
    rcases hlive t ht with rfl | rfl | ⟨i, hi, j, hj, e1, e2⟩ <;> rcases hlive t' ht' with rfl | rfl | ⟨i', hi', j', hj', e1', e2'⟩
    · rfl
    · exact absurd e.symm hgb
    · rw [e1'] at e; have := h.low i' hi'; have e : bn = mb i' + j' := e; omega
    · exact absurd e hgb
    · rfl
    · rw [e1'] at e; exact absurd e (hgm i' hi' j' hj')
    · rw [e1] at e; have := h.low i hi; have e : mb i + j = bn := e; omega
    · rw [e1] at e; exact absurd e.symm (hgm i hi j hj)
    · rw [e1, e1'] at e
      obtain ⟨rfl, rfl⟩ := far i j i' j' hi hi' hj hj' e
      rw [e2, e2']
  · rw [hdeal] at hd; cases hd
  · rw [hdeal] at hd; cases hd
  · obtain ⟨t, ht, rfl⟩ := hb
    have := h.base
    rcases hlive t ht with rfl | rfl | ⟨i, hi, j, hj, e1, e2⟩
    · exact this
    · exact hbg
    · rw [e1]; have := h.low i hi; omega

theorem info_site : (Try.prog.info? 64).map (fun i => (i.zero, i.size, i.bytes)) = some (some (.agg #[.int .i64 0, .bool false, .map none, .map none, .map none, .map none, .map none]), 7, 56) := by kernel_rfl
theorem run_makeProms (w : World) : (Instr.makeMap 60 none).run Try.prog w = .ok (.map (some w.heap.size)) (w.alloc (.map #[] 0)) := by kernel_rfl
theorem okNew_elim {l : List Int} (h : okNew l = true) : 1 ≤ l.length ∧ l.length ≤ 8 ∧ ∀ x ∈ l, (decide ((0 : Int) ≤ x) && decide (x ≤ 1099511627776)) = true := by
  unfold okNew at h
  simp only [Bool.and_eq_true, decide_eq_true_eq, List.all_eq_true] at h
  exact ⟨h.1.1, h.1.2, fun x hx => h.2 x hx⟩

set_option maxRecDepth 20000 in
set_option maxHeartbeats 1000000 in
theorem new_any {w : World} {b cap : Nat} {l : List Int} {o : Obj} (hb : w.heap[b]? = some o) (hr : IsRow 3 1 l.length cap (l.map (Value.int .i64)) o) (hl : okNew l = true) :
    Calls Try.prog 7 #[.slice (some ⟨b, 0, none⟩) l.length cap] w fun e w' => ∃ L, e = .returned (.tuple #[netPtr L, .int .i64 0]) ∧ Rep w' L (Net.new l) ∧ (∀ b, Mut L (Net.new l) b → w.heap.size ≤ b) ∧ Below w.heap.size w w' := by
  obtain ⟨h1, h8, hall⟩ := okNew_elim hl
  have hblt := lt_of hb
  have hw1 : (decide ((1 : Int) ≤ l.length) && decide ((l.length : Int) ≤ 8)) = true := by simp; omega
  have mk1 := run_makeProms
  have mk2 := run_makeBools
  have mk3 := run_makeDeals
  obtain ⟨i0, hi, hz0, hz1, hz2⟩ := info_parts info_site
  have HW1 := Lib.hid hw1
  have HBr := Lib.hid (⟨hb, hr⟩ : w.heap[b]? = some o ∧ IsRow 3 1 l.length cap (l.map (Value.int .i64)) o)
  have HAll := Lib.hid hall
  obtain ⟨n, hn⟩ : ∃ n, l.length = n := ⟨_, rfl⟩
  rw [hn] at HW1 h1 h8 ⊢
  have HN := Lib.hid hn
  clear hw1 hb hr hall hl hn
  go_enter Try.func7, Try.ntmps7
  go_wp2_with fail
  refine (within_any _ _ _ _).mono ?_
  rintro e w' ⟨rfl, rfl⟩
  rw [HW1.out]
  go_wp2
  go_loopw [15] (fun i wr => ∃ (k : Nat) (v : Value) (mb : Nat → Nat), i = .int .i64 k ∧ k ≤ n ∧ Made w.heap.size wr w.heap.size v mb (l.take k) ∧ Below w.heap.size w wr) (fun i _ => n - (intOf i).toNat)
  case atStart =>
    refine ⟨0, .slice none 0 0, fun _ => 0, rfl, Nat.zero_le _, ⟨alloc_same w _, World.ownsRow_nil _ _ _ _, ?_, Nat.le_refl _, ?_, ?_, ?_⟩, (Below.refl _ w).alloc (Nat.le_refl _) _⟩
    · intro i hi; simp at hi
    · intro i hi; simp at hi
    · intro i j _ hj; simp at hj
    · intro k hk; cases hk
  case round =>
    obtain ⟨k, v, mb, rfl, hk, hM, hB⟩ := hrel
    by_cases hlt : k < n
    · have hk' : k < l.length := by rw [HN.out]; exact hlt
      obtain ⟨x, hx⟩ : ∃ x, l[k]? = some x := ⟨l[k], by simp⟩
      have hwx := HAll.out x (List.mem_of_getElem? hx)
      have p0 : wr.cell? ⟨b, k, none⟩ = some (.int .i64 x) := by
        have := HBr.out.2.cell HBr.out.1 (j := k) (v := .int .i64 x) (by rw [List.getElem?_map, hx]; rfl)
        rw [← this]; simp [World.cell?, hB.block b hblt]
      have hbl2 : b < wr.heap.size := Nat.lt_of_lt_of_le hblt hB.size
      have hlen : (l.take k).length = k := by rw [List.length_take]; omega
      have c0 : wr.cell? ⟨w.heap.size, 0, none⟩ = some v := cell_of hM.net rfl
      have f0 : wr.frozen? ⟨w.heap.size, 0, none⟩ = false := free_of hM.net
      have hnl := hM.lt
      have hown := hM.own
      rw [hlen] at hown
      have hfin : ∀ v' w1, w1.ownsRow w.heap.size 64 7 v' (k + 1) ((l.take k).zipIdx.flatMap (freshCells mb) ++ freshCells (fun _ => wr.heap.size) (x, 0)) → (siteMade wr x).grownBy w1 v.ownBlock → (v'.ownBlock = v.ownBlock ∨ v'.ownBlock = some (siteMade wr x).heap.size) →
          (w1.cell? ⟨w.heap.size, 0, none⟩ = some v ∧ w1.frozen? ⟨w.heap.size, 0, none⟩ = false ∧ w.heap.size < w1.heap.size) ∧
          Made w.heap.size (w1.setCell ⟨w.heap.size, 0, none⟩ v') w.heap.size v' (fun i => if i < (l.take k).length then mb i else wr.heap.size) (l.take (k + 1)) ∧ Below w.heap.size w (w1.setCell ⟨w.heap.size, 0, none⟩ v') := by
        intro v' w1 g1 g2 g3
        have hne : some w.heap.size ≠ v.ownBlock := fun e => (hM.apart _ e.symm).1 rfl
        have hsz := siteMade_size wr x
        have hnet : w1.heap[w.heap.size]? = wr.heap[w.heap.size]? := (g2.block _ (by omega) hne).trans (siteMade_old wr x hnl)
        have hst := hM.step x (by rw [hlen]; exact g1) g2 g3
        have htk : l.take (k + 1) = l.take k ++ [x] := by rw [List.take_add_one, hx]; rfl
        rw [htk]
        refine ⟨⟨?_, ?_, ?_⟩, hst, ?_⟩
        · rw [← c0]; simp [World.cell?, hnet]
        · rw [← f0]; simp [World.frozen?, hnet]
        · have := g2.size; omega
        · have hb0 : Below w.heap.size w (siteMade wr x) := ⟨hB.os, hB.tape, hB.output, by have := hB.size; omega, fun b hb => (siteMade_old wr x (by have := hB.size; omega)).trans (hB.block b hb)⟩
          have hb1 : Below w.heap.size w w1 := hb0.grown g2 (by have := hB.size; omega) (fun k hk => (hM.own.lt k hk).1)
          exact hb1.setCell (Nat.le_refl _) _
      have HF := Lib.hid hfin
      have HWx := Lib.hid hwx
      have HO := Lib.hid (((((((hown.alloc (.map #[] 0)).alloc (.map #[] 0)).alloc (.map #[] 0)).alloc (.map #[] 0)).alloc (.map #[] 0)).alloc
        (.cells #[.int .i64 x, .bool false, .map (some wr.heap.size), .map (some (wr.heap.size + 1)), .map (some (wr.heap.size + 2)), .map (some (wr.heap.size + 3)), .map (some (wr.heap.size + 4))] 64)))
      clear hM hB hfin hwx hx hown
      go_wp2_with fail
      refine (within_any _ _ _ _).mono ?_
      rintro e w' ⟨rfl, rfl⟩
      rw [HWx.out]
      go_wp2_with (first
        | (at_builtin; refine wpList_append_own_at _ rfl _ _ 47 rfl w.heap.size 64 i0 _ 7 56 Try.underlying47 hi hz0 hz1 hz2 rfl (by decide) _ _ _ rfl HO.out ⟨wr.heap.size + 5, 0, none⟩ 1 1 (freshCells (fun _ => wr.heap.size) (x, 0)) rfl rfl ?c1 ?c2 ?c3 ?c4 ?c5 ?_)
        | go_in)
      case c1 =>
        intro j u hu
        rw [Addr.add_lit, Nat.zero_add]
        exact cell_of (siteMade_row wr x) (by simpa using hu)
      case c2 =>
        intro u hu
        simp [freshCells] at hu
        rcases hu with rfl | rfl | rfl | rfl | rfl | rfl | rfl <;> rfl
      case c3 => unfold maxLen; omega
      case c4 => omega
      case c5 => simp; omega
      intro v' w1 hown1 hg1 _ hloc
      obtain ⟨⟨n0, n1, n2⟩, hMd, hBd⟩ := HF.out v' w1 hown1 hg1 (by rw [siteMade_size]; exact hloc)
      obtain ⟨g9, c9, rfl⟩ : ∃ g c, v' = .slice (some ⟨g, 0, none⟩) (k + 1) c := by
        rcases hown1.2 with ⟨_, h0⟩ | ⟨g, cap, cur, e, _⟩
        · omega
        · exact ⟨g, cap, e⟩
      have HMd := Lib.hid hMd
      have HBd := Lib.hid hBd
      clear hown1 hg1 hloc hMd hBd p0 c0 f0
      go_wp2
      go_roundw
      case rel => exact ⟨k + 1, _, _, by go_num, by omega, HMd.out, HBd.out⟩
      case measure => simp [intOf]; omega
    · have hkn : k = n := by omega
      subst hkn
      rw [List.take_of_length_le (by rw [HN.out]; exact Nat.le_refl _)] at hM
      obtain ⟨L, e1, hR, hMu⟩ := hM.rep (by rw [HN.out]; omega)
      have HFin := Lib.hid (⟨e1, hR, hMu, hB⟩ : netPtr L = .pointer (some ⟨w.heap.size, 0, none⟩) ∧ Rep wr L (Net.new l) ∧ (∀ b, Mut L (Net.new l) b → w.heap.size ≤ b) ∧ Below w.heap.size w wr)
      clear hM e1 hR hMu hB
      go_wp2
      go_ret2
      exact ⟨L, by rw [HFin.out.1] <;> rfl, HFin.out.2.1, HFin.out.2.2.1, HFin.out.2.2.2⟩
end Go.Proofs.Ytfmfgckfeojfcaa
