/- What each single store of package pact does to a net in memory. No condition beyond those stated. -/
import Derived.Test.YtfmfgckfeojfcaaRep
set_option linter.unusedSimpArgs false
set_option linter.unusedVariables false
namespace Go.Proofs.Ytfmfgckfeojfcaa
open Go.RowKit Go.Maps Go.ChangeMaps

def Site.withDeals (s : Site) (g : Bool) (m : List (Int × Deal)) : Site := if g then { s with granted := m } else { s with opened := m }
def Lay.put (L : Lay) (t : Tag) (b : Nat) : Lay := { L with at_ := fun x => if x = t then b else L.at_ x }
theorem Lay.put_same (L : Lay) (t : Tag) (b : Nat) : (L.put t b).at_ t = b := by simp [Lay.put]
theorem Lay.put_other (L : Lay) {t x : Tag} (b : Nat) (h : x ≠ t) : (L.put t b).at_ x = L.at_ x := by simp [Lay.put, h]
def Lay.putParts (L : Lay) (g : Bool) (i : Nat) (tx : Int) (p : Nat × Nat) : Lay := { L with pb := fun g' i' tx' => if g' = g ∧ i' = i ∧ tx' = tx then p else L.pb g' i' tx' }

def Same (N N' : Net) : Tag → Prop
  | .net => N'.sd.length = N.sd.length ∧ N'.mail.length = N.mail.length ∧ N'.count = N.count
  | .sites => N'.sd = N.sd
  | .mail => N'.mail = N.mail
  | .prom i => N'.proms i = N.proms i
  | .kept i => N'.kepts i = N.kepts i
  | .drop i => N'.drops i = N.drops i
  | .deals g i => N'.deals g i = N.deals g i
  | .done g i tx => N'.deal g i tx = N.deal g i tx

section
variable {w : World} {L : Lay} {N N' : Net}

theorem same_shape (hlen : N'.sites.length = N.sites.length) {t : Tag} (h : Same N N' t) : (Live L N' t → Live L N t) ∧ ∀ o, Shape L N t o → Shape L N' t o := by
  cases t <;> simp only [Same] at h <;> refine ⟨?_, fun o ho => ?_⟩
  case net.refine_1 => exact id
  case net.refine_2 => simp only [Shape, mailV, h.1, h.2.1, h.2.2] at ho ⊢; exact ho
  case sites.refine_1 => exact id
  case sites.refine_2 => simp only [Shape, h] at ho ⊢; exact ho
  case mail.refine_1 => exact id
  case mail.refine_2 => simp only [Shape, h] at ho ⊢; exact ho
  case prom.refine_1 => simp [Live, hlen]
  case prom.refine_2 => simp only [Shape, h] at ho ⊢; exact ho
  case kept.refine_1 => simp [Live, hlen]
  case kept.refine_2 => simp only [Shape, h] at ho ⊢; exact ho
  case drop.refine_1 => simp [Live, hlen]
  case drop.refine_2 => simp only [Shape, h] at ho ⊢; exact ho
  case deals.refine_1 => simp [Live, hlen]
  case deals.refine_2 => simp only [Shape, h] at ho ⊢; exact ho
  case done.refine_1 => simp [Live, h]
  case done.refine_2 => simp only [Shape, h] at ho ⊢; exact ho

/-! what a net with one site changed shows -/
variable {i : Nat} {s s' : Site}
theorem setSite_length (N : Net) (i : Nat) (s' : Site) : (N.setSite i s').sites.length = N.sites.length := by simp [Net.setSite]
theorem setSite_get (hs : N.sites[i]? = some s) (s' : Site) (j : Nat) : (N.setSite i s').sites[j]? = if j = i then some s' else N.sites[j]? := by
  have := siteLt hs
  simp only [Net.setSite, List.getElem?_set]
  by_cases e : j = i
  · subst e; simp [this]
  · simp [e, Ne.symm e]
theorem setSite_sd (hs : N.sites[i]? = some s) (s' : Site) (h1 : s'.stock = s.stock) (h2 : s'.down = s.down) : (N.setSite i s').sd = N.sd := by
  unfold Net.sd Net.setSite
  simp only [List.map_set, h1, h2]
  refine List.ext_getElem? fun j => ?_
  rw [List.getElem?_set]
  split
  · rename_i e; subst e
    split
    · simp [hs]
    · rename_i hlt; rw [List.length_map] at hlt; exact absurd (siteLt hs) hlt
  · rfl
theorem setSite_proms (hs : N.sites[i]? = some s) (s' : Site) (j : Nat) : (N.setSite i s').proms j = if j = i then some s'.promised else N.proms j := by
  unfold Net.proms; rw [setSite_get hs]; split <;> rfl
theorem setSite_kepts (hs : N.sites[i]? = some s) (s' : Site) (j : Nat) : (N.setSite i s').kepts j = if j = i then some s'.kept else N.kepts j := by
  unfold Net.kepts; rw [setSite_get hs]; split <;> rfl
theorem setSite_drops (hs : N.sites[i]? = some s) (s' : Site) (j : Nat) : (N.setSite i s').drops j = if j = i then some s'.dropped else N.drops j := by
  unfold Net.drops; rw [setSite_get hs]; split <;> rfl
theorem setSite_deals (hs : N.sites[i]? = some s) (s' : Site) (g : Bool) (j : Nat) : (N.setSite i s').deals g j = if j = i then some (s'.deals g) else N.deals g j := by
  unfold Net.deals; rw [setSite_get hs]; split <;> rfl
theorem setSite_deal (hs : N.sites[i]? = some s) (s' : Site) (g : Bool) (j : Nat) (tx : Int) : (N.setSite i s').deal g j tx = if j = i then AL.get? tx (s'.deals g) else N.deal g j tx := by
  unfold Net.deal; rw [setSite_deals hs]; split <;> rfl
theorem proms_at (hs : N.sites[i]? = some s) : N.proms i = some s.promised := by simp [Net.proms, hs]
theorem kepts_at (hs : N.sites[i]? = some s) : N.kepts i = some s.kept := by simp [Net.kepts, hs]
theorem drops_at (hs : N.sites[i]? = some s) : N.drops i = some s.dropped := by simp [Net.drops, hs]
theorem deals_at (hs : N.sites[i]? = some s) (g : Bool) : N.deals g i = some (s.deals g) := by simp [Net.deals, hs]
theorem deal_at (hs : N.sites[i]? = some s) (g : Bool) (tx : Int) : N.deal g i tx = AL.get? tx (s.deals g) := by simp [Net.deal, Net.deals, hs]

/-- One block turns, the layout stays. -/
theorem Rep.one (h : Rep w L N) {t0 : Tag} {w' : World} (hlen : N'.sites.length = N.sites.length) (hs : ∀ t, t ≠ t0 → Same N N' t) (hd : ∀ g i tx d', N'.deal g i tx = some d' → ∃ d, N.deal g i tx = some d ∧ d'.parts = d.parts)
    (hl0 : Live L N' t0 → Live L N t0) (hm : N'.mail.length = N.mail.length)
    (hheap : ∀ b, b ≠ L.at_ t0 → w'.heap[b]? = w.heap[b]?) (h0 : Live L N' t0 → ∃ o, w'.heap[L.at_ t0]? = some o ∧ Shape L N' t0 o) (hl00 : Live L N t0) : Rep w' L N' := by
  have hlv : ∀ t, Live L N' t → Live L N t := fun t ht => by
    by_cases e : t = t0
    · subst e; exact hl0 ht
    · exact (same_shape hlen (hs t e)).1 ht
  refine h.change (fun t => t = t0) (fun t ht e => ⟨hlv t ht, rfl, (same_shape hlen (hs t e)).2⟩) (fun t ht e => hheap _ fun e' => e (h.inj t t0 ht hl00 e')) (fun t ht e => ?_) (fun t t' ht ht' e he => h.inj t t' (hlv t ht) (hlv t' ht') he)
    (fun g i tx d' hd' => ?_) (fun g i tx d' t hd' ht => ?_) (by rw [hm]; exact h.mlen)
  · subst e; exact h0 ht
  · obtain ⟨d, hdd, hp⟩ := hd g i tx d' hd'
    obtain ⟨o, ho, hr⟩ := h.parts g i tx d hdd
    rw [hp]
    exact ⟨o, (hheap _ fun e => h.apart g i tx d t0 hdd hl00 e.symm).trans ho, hr⟩
  · obtain ⟨d, hdd, _⟩ := hd g i tx d' hd'
    exact h.apart g i tx d t hdd (hlv t ht)

theorem heap_setBlock_other' (w : World) (b : Nat) (o : Obj) : ∀ i, i ≠ b → (setBlock w b o).heap[i]? = w.heap[i]? := fun i hi => heap_setBlock_ne w o hi
theorem heap_set_same {b : Nat} (hb : b < w.heap.size) (o : Obj) : (setBlock w b o).heap[b]? = some o := by simp [setBlock, hb]

theorem Rep.setProm (h : Rep w L N) (hs : N.sites[i]? = some s) {p : List (Int × (Int × Int))} {o : Obj} (hM : MapObj okI (Value.int .i64) (promV p) o) :
    Rep (setBlock w (L.at_ (.prom i)) o) L (N.setSite i { s with promised := p }) := by
  obtain ⟨o0, ho0, _⟩ := h.promAt hs
  refine h.one (t0 := .prom i) (setSite_length _ _ _) (fun t ht => ?_) (fun g j tx d' hd' => ?_) (by simp [Live, setSite_length]) rfl (heap_setBlock_other' w _ o) (fun _ => ⟨o, heap_set_same (lt_of ho0) o, p, by rw [setSite_proms hs]; simp, hM⟩) (by simp [Live]; exact siteLt hs)
  · cases t with
    | net => exact ⟨by rw [setSite_sd hs] <;> rfl, rfl, rfl⟩
    | sites => exact setSite_sd hs _ rfl rfl
    | mail => rfl
    | prom j => have : j ≠ i := fun e => ht (by rw [e]); simp [Same, setSite_proms hs, this]
    | kept j => simp only [Same, setSite_kepts hs]; split <;> simp_all [kepts_at]
    | drop j => simp only [Same, setSite_drops hs]; split <;> simp_all [drops_at]
    | deals g j => simp only [Same, setSite_deals hs]; split <;> simp_all [deals_at, Site.deals]
    | done g j tx => simp only [Same, setSite_deal hs]; split <;> simp_all [deal_at, Site.deals]
  · rw [setSite_deal hs] at hd'
    split at hd'
    · rename_i e; subst e; exact ⟨d', by rw [deal_at hs]; exact hd', rfl⟩
    · exact ⟨d', hd', rfl⟩

theorem Rep.setKept (h : Rep w L N) (hs : N.sites[i]? = some s) {p : List (Int × Unit)} {o : Obj} (hM : MapObj okI (Value.int .i64) (setV p) o) :
    Rep (setBlock w (L.at_ (.kept i)) o) L (N.setSite i { s with kept := p }) := by
  obtain ⟨o0, ho0, _⟩ := h.keptAt hs
  refine h.one (t0 := .kept i) (setSite_length _ _ _) (fun t ht => ?_) (fun g j tx d' hd' => ?_) (by simp [Live, setSite_length]) rfl (heap_setBlock_other' w _ o) (fun _ => ⟨o, heap_set_same (lt_of ho0) o, p, by rw [setSite_kepts hs]; simp, hM⟩) (by simp [Live]; exact siteLt hs)
  · cases t with
    | net => exact ⟨by rw [setSite_sd hs] <;> rfl, rfl, rfl⟩
    | sites => exact setSite_sd hs _ rfl rfl
    | mail => rfl
    | prom j => simp only [Same, setSite_proms hs]; split <;> simp_all [proms_at]
    | kept j => have : j ≠ i := fun e => ht (by rw [e]); simp [Same, setSite_kepts hs, this]
    | drop j => simp only [Same, setSite_drops hs]; split <;> simp_all [drops_at]
    | deals g j => simp only [Same, setSite_deals hs]; split <;> simp_all [deals_at, Site.deals]
    | done g j tx => simp only [Same, setSite_deal hs]; split <;> simp_all [deal_at, Site.deals]
  · rw [setSite_deal hs] at hd'
    split at hd'
    · rename_i e; subst e; exact ⟨d', by rw [deal_at hs]; exact hd', rfl⟩
    · exact ⟨d', hd', rfl⟩

theorem Rep.setDrop (h : Rep w L N) (hs : N.sites[i]? = some s) {p : List (Int × Unit)} {o : Obj} (hM : MapObj okI (Value.int .i64) (setV p) o) :
    Rep (setBlock w (L.at_ (.drop i)) o) L (N.setSite i { s with dropped := p }) := by
  obtain ⟨o0, ho0, _⟩ := h.dropAt hs
  refine h.one (t0 := .drop i) (setSite_length _ _ _) (fun t ht => ?_) (fun g j tx d' hd' => ?_) (by simp [Live, setSite_length]) rfl (heap_setBlock_other' w _ o) (fun _ => ⟨o, heap_set_same (lt_of ho0) o, p, by rw [setSite_drops hs]; simp, hM⟩) (by simp [Live]; exact siteLt hs)
  · cases t with
    | net => exact ⟨by rw [setSite_sd hs] <;> rfl, rfl, rfl⟩
    | sites => exact setSite_sd hs _ rfl rfl
    | mail => rfl
    | prom j => simp only [Same, setSite_proms hs]; split <;> simp_all [proms_at]
    | kept j => simp only [Same, setSite_kepts hs]; split <;> simp_all [kepts_at]
    | drop j => have : j ≠ i := fun e => ht (by rw [e]); simp [Same, setSite_drops hs, this]
    | deals g j => simp only [Same, setSite_deals hs]; split <;> simp_all [deals_at, Site.deals]
    | done g j tx => simp only [Same, setSite_deal hs]; split <;> simp_all [deal_at, Site.deals]
  · rw [setSite_deal hs] at hd'
    split at hd'
    · rename_i e; subst e; exact ⟨d', by rw [deal_at hs]; exact hd', rfl⟩
    · exact ⟨d', hd', rfl⟩

theorem withDeals_deals (s : Site) (g g' : Bool) (m : List (Int × Deal)) : (s.withDeals g m).deals g' = if g' = g then m else s.deals g' := by
  cases g <;> cases g' <;> rfl
theorem withDeals_stock (s : Site) (g : Bool) (m : List (Int × Deal)) : (s.withDeals g m).stock = s.stock := by cases g <;> rfl
theorem withDeals_down (s : Site) (g : Bool) (m : List (Int × Deal)) : (s.withDeals g m).down = s.down := by cases g <;> rfl
theorem withDeals_prom (s : Site) (g : Bool) (m : List (Int × Deal)) : (s.withDeals g m).promised = s.promised := by cases g <;> rfl
theorem withDeals_kept (s : Site) (g : Bool) (m : List (Int × Deal)) : (s.withDeals g m).kept = s.kept := by cases g <;> rfl
theorem withDeals_drop (s : Site) (g : Bool) (m : List (Int × Deal)) : (s.withDeals g m).dropped = s.dropped := by cases g <;> rfl

/-- 'delete(s.open, tx)' | 'delete(s.granted, tx)'. -/
theorem Rep.delDeal (h : Rep w L N) (hs : N.sites[i]? = some s) (g : Bool) (tx : Int) {o : Obj} (hn : (AL.keys (s.deals g)).Nodup) (hM : MapObj okI (Value.int .i64) (dealsV L g i (AL.del tx (s.deals g))) o) :
    Rep (setBlock w (L.at_ (.deals g i)) o) L (N.setSite i (s.withDeals g (AL.del tx (s.deals g)))) := by
  obtain ⟨o0, ho0, _⟩ := h.dealsAt hs g
  have hdl : ∀ g' j x d', (N.setSite i (s.withDeals g (AL.del tx (s.deals g)))).deal g' j x = some d' → N.deal g' j x = some d' := fun g' j x d' hd' => by
    rw [setSite_deal hs] at hd'
    split at hd'
    · rename_i e; subst e
      rw [withDeals_deals] at hd'
      split at hd'
      · rename_i e; subst e
        rw [deal_at hs]
        by_cases e : x = tx
        · subst e; rw [AL.get?_del_same] at hd'; cases hd'
        · rw [AL.get?_del_other e] at hd'; exact hd'
      · rw [deal_at hs]; exact hd'
    · exact hd'
  have hlv : ∀ t, Live L (N.setSite i (s.withDeals g (AL.del tx (s.deals g)))) t → Live L N t := fun t ht => by
    cases t <;> simp only [Live, setSite_length] at ht ⊢ <;> first | exact ht | skip
    rename_i g' j x
    obtain ⟨d', hd'⟩ := Option.isSome_iff_exists.1 ht
    rw [hdl _ _ _ _ hd']; rfl
  refine h.change (fun t => t = .deals g i) (fun t ht e => ⟨hlv t ht, rfl, fun o ho => ?_⟩) (fun t ht e => heap_setBlock_ne w o fun e' => e (h.inj t _ ht (by simp [Live]; exact siteLt hs) e')) (fun t ht e => ?_)
    (fun t t' ht ht' e he => h.inj t t' (hlv t ht) (hlv t' ht') he) (fun g' j x d' hd' => ?_) (fun g' j x d' t hd' ht => h.apart g' j x d' t (hdl _ _ _ _ hd') (hlv t ht)) (by simpa [Net.setSite] using h.mlen)
  · cases t with
    | net => simp only [Shape, setSite_sd hs _ (withDeals_stock _ _ _) (withDeals_down _ _ _)] at ho ⊢; exact ho
    | sites => simp only [Shape, setSite_sd hs _ (withDeals_stock _ _ _) (withDeals_down _ _ _)] at ho ⊢; exact ho
    | mail => exact ho
    | prom j => simp only [Shape, setSite_proms hs, withDeals_prom] at ho ⊢; split <;> simp_all [proms_at]
    | kept j => simp only [Shape, setSite_kepts hs, withDeals_kept] at ho ⊢; split <;> simp_all [kepts_at]
    | drop j => simp only [Shape, setSite_drops hs, withDeals_drop] at ho ⊢; split <;> simp_all [drops_at]
    | deals g' j =>
      simp only [Shape, setSite_deals hs, withDeals_deals] at ho ⊢
      by_cases e1 : j = i
      · subst e1
        have : g' ≠ g := fun e2 => e (by rw [e2])
        simp_all [deals_at]
      · simp_all
    | done g' j x =>
      obtain ⟨d, hd, hM'⟩ := ho
      simp only [Live] at ht
      obtain ⟨d', hd'⟩ := Option.isSome_iff_exists.1 ht
      have := hdl _ _ _ _ hd'
      rw [hd] at this; cases this
      exact ⟨d, hd', hM'⟩
  · subst e
    exact ⟨o, heap_set_same (lt_of ho0) o, _, by rw [setSite_deals hs, withDeals_deals]; simp, hM⟩
  · obtain ⟨o', ho', hr⟩ := h.parts g' j x d' (hdl _ _ _ _ hd')
    exact ⟨o', (heap_setBlock_ne w o fun e => h.apart g' j x d' (.deals g i) (hdl _ _ _ _ hd') (by simp [Live]; exact siteLt hs) e.symm).trans ho', hr⟩

/-- 'd.done[f] = true', d the deal tx of site i. -/
theorem Rep.setDone (h : Rep w L N) (hs : N.sites[i]? = some s) (g : Bool) (tx : Int) {d : Deal} (hd : AL.get? tx (s.deals g) = some d) (hn : (AL.keys (s.deals g)).Nodup) {p : List (Int × Unit)} {o : Obj} (hM : MapObj okI (Value.int .i64) (setV p) o) :
    Rep (setBlock w (L.at_ (.done g i tx)) o) L (N.setSite i (s.withDeals g (AL.put tx { d with done := p } (s.deals g)))) := by
  have hdN := deal_of hs hd
  obtain ⟨o0, ho0, _⟩ := h.doneAt hdN
  have hput : ∀ x, AL.get? x (AL.put tx { d with done := p } (s.deals g)) = if x = tx then some { d with done := p } else AL.get? x (s.deals g) := fun x => by
    by_cases e : x = tx
    · subst e; rw [AL.get?_put_same _ _ hn, if_pos rfl]
    · rw [AL.get?_put_other e _ hn, if_neg e]
  have hdl : ∀ g' j x, (N.setSite i (s.withDeals g (AL.put tx { d with done := p } (s.deals g)))).deal g' j x = if g' = g ∧ j = i ∧ x = tx then some { d with done := p } else N.deal g' j x := fun g' j x => by
    rw [setSite_deal hs]
    by_cases e1 : j = i
    · subst e1
      rw [if_pos rfl, withDeals_deals]
      by_cases e2 : g' = g
      · subst e2
        rw [if_pos rfl, hput]
        by_cases e3 : x = tx
        · subst e3; simp
        · simp [e3, deal_at hs]
      · simp [e2, deal_at hs]
    · simp [e1]
  have hlv : ∀ t, Live L (N.setSite i (s.withDeals g (AL.put tx { d with done := p } (s.deals g)))) t → Live L N t := fun t ht => by
    cases t <;> simp only [Live, setSite_length, hdl] at ht ⊢ <;> first | exact ht | skip
    split at ht
    · rename_i e; obtain ⟨rfl, rfl, rfl⟩ := e; simp [hdN]
    · exact ht
  have hlt0 : Live L N (.done g i tx) := by simp [Live, hdN]
  refine h.change (fun t => t = .done g i tx) (fun t ht e => ⟨hlv t ht, rfl, fun o ho => ?_⟩) (fun t ht e => heap_setBlock_ne w o fun e' => e (h.inj t _ ht hlt0 e')) (fun t ht e => ?_)
    (fun t t' ht ht' e he => h.inj t t' (hlv t ht) (hlv t' ht') he) (fun g' j x d' hd' => ?_) (fun g' j x d' t hd' ht => ?_) (by simpa [Net.setSite] using h.mlen)
  · cases t with
    | net => simp only [Shape, setSite_sd hs _ (withDeals_stock _ _ _) (withDeals_down _ _ _)] at ho ⊢; exact ho
    | sites => simp only [Shape, setSite_sd hs _ (withDeals_stock _ _ _) (withDeals_down _ _ _)] at ho ⊢; exact ho
    | mail => exact ho
    | prom j => simp only [Shape, setSite_proms hs, withDeals_prom] at ho ⊢; split <;> simp_all [proms_at]
    | kept j => simp only [Shape, setSite_kepts hs, withDeals_kept] at ho ⊢; split <;> simp_all [kepts_at]
    | drop j => simp only [Shape, setSite_drops hs, withDeals_drop] at ho ⊢; split <;> simp_all [drops_at]
    | deals g' j =>
      simp only [Shape, setSite_deals hs, withDeals_deals] at ho ⊢
      by_cases e1 : j = i
      · subst e1
        by_cases e2 : g' = g
        · subst e2
          obtain ⟨m, hm, hM'⟩ := ho
          rw [deals_at hs] at hm; cases hm
          refine ⟨_, by rw [if_pos rfl, if_pos rfl], hM'.perm ?_⟩
          have e3 := AL.put_map (fun k v => dealVal L g' j k v) tx { d with done := p } (s.deals g')
          have e4 : dealVal L g' j tx { d with done := p } = dealVal L g' j tx d := rfl
          have hg : AL.get? tx (dealsV L g' j (s.deals g')) = some (dealVal L g' j tx d) := by unfold dealsV; rw [AL.get?_map (fun k v => dealVal L g' j k v), hd]; rfl
          have hk : (AL.keys (dealsV L g' j (s.deals g'))).Nodup := by simpa [AL.keys, dealsV, Function.comp_def] using hn
          refine (AL.perm_of_get? hg hk).trans ?_
          have e5 : dealsV L g' j (AL.put tx { d with done := p } (s.deals g')) = AL.put tx (dealVal L g' j tx d) (dealsV L g' j (s.deals g')) := by rw [← e4]; exact e3.symm
          rw [e5]
          exact (AL.put_perm _ _ _).symm
        · simp_all [deals_at]
      · simp_all
    | done g' j x =>
      have : ¬ (g' = g ∧ j = i ∧ x = tx) := fun ⟨e1, e2, e3⟩ => e (by rw [e1, e2, e3])
      simp only [Shape, hdl, this, if_false] at ho ⊢; exact ho
  · subst e
    exact ⟨o, heap_set_same (lt_of ho0) o, { d with done := p }, by rw [hdl]; simp, hM⟩
  · rw [hdl] at hd'
    have key : ∀ d0, N.deal g' j x = some d0 → PartsAt (setBlock w (L.at_ (.done g i tx)) o) (L.pb g' j x) d0.parts := fun d0 h0 => by
      obtain ⟨o', ho', hr⟩ := h.parts g' j x d0 h0
      exact ⟨o', (heap_setBlock_ne w o fun e => h.apart g' j x d0 _ h0 hlt0 e.symm).trans ho', hr⟩
    split at hd'
    · rename_i e; obtain ⟨rfl, rfl, rfl⟩ := e; cases hd'; exact key d hdN
    · exact key d' hd'
  · rw [hdl] at hd'
    split at hd'
    · rename_i e; obtain ⟨rfl, rfl, rfl⟩ := e; exact h.apart _ _ _ d t hdN (hlv t ht)
    · exact h.apart g' j x d' t hd' (hlv t ht)

/-- A new deal: 's.open[tx] = deal{parts, map}'. -/
theorem Rep.newDeal (h : Rep w L N) (hs : N.sites[i]? = some s) (g : Bool) (tx : Int) {ps : List Move} (hn : (AL.keys (s.deals g)).Nodup)
    {b pb cap : Nat} {ob : Obj} (hb : w.heap[b]? = some ob) (hob : MapObj okI (Value.int .i64) [] ob) (hbm : ¬ Mut L N b) (hbf : ¬ Fix L N b) (hpt : PartsAt w (pb, cap) ps) (hpm : ¬ Mut L N pb) (hpb : pb ≠ b)
    {M : List (Int × Value)} {o : Obj} (hM : MapObj okI (Value.int .i64) M o) (hMp : M.Perm ((tx, .agg #[.slice (some ⟨pb, 0, none⟩) ps.length cap, .map (some b)]) :: AL.del tx (dealsV L g i (s.deals g)))) :
    Rep (setBlock w (L.at_ (.deals g i)) o) ((L.put (.done g i tx) b).putParts g i tx (pb, cap)) (N.setSite i (s.withDeals g (AL.put tx ⟨ps, []⟩ (s.deals g)))) := by
  obtain ⟨o0, ho0, _⟩ := h.dealsAt hs g
  have hlt : Live L N (.deals g i) := by simp [Live]; exact siteLt hs
  have hput : ∀ x, AL.get? x (AL.put tx (⟨ps, []⟩ : Deal) (s.deals g)) = if x = tx then some ⟨ps, []⟩ else AL.get? x (s.deals g) := fun x => by
    by_cases e : x = tx
    · subst e; rw [AL.get?_put_same _ _ hn, if_pos rfl]
    · rw [AL.get?_put_other e _ hn, if_neg e]
  have hdl : ∀ g' j x, (N.setSite i (s.withDeals g (AL.put tx ⟨ps, []⟩ (s.deals g)))).deal g' j x = if g' = g ∧ j = i ∧ x = tx then some ⟨ps, []⟩ else N.deal g' j x := fun g' j x => by
    rw [setSite_deal hs]
    by_cases e1 : j = i
    · subst e1
      rw [if_pos rfl, withDeals_deals]
      by_cases e2 : g' = g
      · subst e2
        rw [if_pos rfl, hput]
        by_cases e3 : x = tx
        · subst e3; simp
        · simp [e3, deal_at hs]
      · simp [e2, deal_at hs]
    · simp [e1]
  have hlv : ∀ t, Live L (N.setSite i (s.withDeals g (AL.put tx ⟨ps, []⟩ (s.deals g)))) t → t ≠ .done g i tx → Live L N t := fun t ht e => by
    cases t <;> simp only [Live, setSite_length, hdl] at ht ⊢ <;> first | exact ht | skip
    split at ht
    · rename_i e'; obtain ⟨rfl, rfl, rfl⟩ := e'; exact absurd rfl e
    · exact ht
  have hlv' : ∀ t, Live ((L.put (.done g i tx) b).putParts g i tx (pb, cap)) (N.setSite i (s.withDeals g (AL.put tx ⟨ps, []⟩ (s.deals g)))) t → t ≠ .done g i tx → Live L N t := fun t ht e => hlv t (by cases t <;> exact ht) e
  have hat : ∀ t, t ≠ .done g i tx → ((L.put (.done g i tx) b).putParts g i tx (pb, cap)).at_ t = L.at_ t := fun t e => Lay.put_other L b e
  have hat0 : ((L.put (.done g i tx) b).putParts g i tx (pb, cap)).at_ (.done g i tx) = b := Lay.put_same L _ b
  have hdv : ∀ g' j k v, ¬ (g' = g ∧ j = i ∧ k = tx) → dealVal ((L.put (.done g i tx) b).putParts g i tx (pb, cap)) g' j k v = dealVal L g' j k v := fun g' j k v e => by
    unfold dealVal
    rw [hat _ (fun e' => e (by cases e'; exact ⟨rfl, rfl, rfl⟩))]
    simp [Lay.putParts, Lay.put, e]
  have hnb : ∀ t, Live L N t → L.at_ t ≠ b := fun t ht e => hbm ⟨t, ht, e⟩
  refine h.change (fun t => t = .deals g i ∨ t = .done g i tx) (fun t ht e => ?_) (fun t ht e => heap_setBlock_ne w o fun e' => e (.inl (h.inj t _ ht hlt e'))) (fun t ht e => ?_) (fun t t' ht ht' e he => ?_) (fun g' j x d' hd' => ?_) (fun g' j x d' t hd' ht => ?_) h.mlen
  · have e1 : t ≠ .deals g i := fun e' => e (.inl e')
    have e2 : t ≠ .done g i tx := fun e' => e (.inr e')
    refine ⟨hlv' t ht e2, hat t e2, fun o ho => ?_⟩
    cases t with
    | net => simp only [Shape, setSite_sd hs _ (withDeals_stock _ _ _) (withDeals_down _ _ _)] at ho ⊢; exact ho
    | sites => simp only [Shape, setSite_sd hs _ (withDeals_stock _ _ _) (withDeals_down _ _ _)] at ho ⊢; exact ho
    | mail => exact ho
    | prom j => simp only [Shape, setSite_proms hs, withDeals_prom] at ho ⊢; split <;> simp_all [proms_at]
    | kept j => simp only [Shape, setSite_kepts hs, withDeals_kept] at ho ⊢; split <;> simp_all [kepts_at]
    | drop j => simp only [Shape, setSite_drops hs, withDeals_drop] at ho ⊢; split <;> simp_all [drops_at]
    | deals g' j =>
      have e3 : ¬ (g' = g ∧ j = i) := fun ⟨a, c⟩ => e1 (by rw [a, c])
      obtain ⟨m, hm, hM'⟩ := ho
      refine ⟨m, ?_, ?_⟩
      · rw [setSite_deals hs, withDeals_deals]
        by_cases e4 : j = i
        · subst e4
          have e5 : g' ≠ g := fun e' => e3 ⟨e', rfl⟩
          rw [if_pos rfl, if_neg e5, ← deals_at hs]; exact hm
        · rw [if_neg e4]; exact hm
      · have : dealsV ((L.put (.done g i tx) b).putParts g i tx (pb, cap)) g' j m = dealsV L g' j m := AL.map_congr fun k v _ => hdv g' j k v fun ⟨a, c, _⟩ => e3 ⟨a, c⟩
        rw [this]; exact hM'
    | done g' j x =>
      have : ¬ (g' = g ∧ j = i ∧ x = tx) := fun ⟨a, c, d⟩ => e2 (by rw [a, c, d])
      simp only [Shape, hdl, this, if_false] at ho ⊢; exact ho
  · rcases e with rfl | rfl
    · refine ⟨o, by rw [hat _ (by simp)]; exact heap_set_same (lt_of ho0) o, _, by rw [setSite_deals hs, withDeals_deals, if_pos rfl, if_pos rfl], hM.perm (hMp.trans ?_)⟩
      have p1 := (AL.put_perm tx (⟨ps, []⟩ : Deal) (s.deals g)).map fun p => (p.1, dealVal ((L.put (.done g i tx) b).putParts g i tx (pb, cap)) g i p.1 p.2)
      refine List.Perm.trans ?_ p1.symm
      rw [List.map_cons]
      have e3 : dealVal ((L.put (.done g i tx) b).putParts g i tx (pb, cap)) g i tx ⟨ps, []⟩ = .agg #[.slice (some ⟨pb, 0, none⟩) ps.length cap, .map (some b)] := by
        unfold dealVal; rw [hat0]; simp [Lay.putParts]
      rw [e3]
      refine List.Perm.cons _ (List.Perm.of_eq ?_)
      unfold dealsV
      rw [AL.del_map (fun k v => dealVal L g i k v)]
      exact (AL.map_congr fun k v hk => hdv g i k v fun ⟨_, _, e4⟩ => (AL.mem_del.1 hk).2 e4).symm
    · refine ⟨ob, ?_, ⟨ps, []⟩, by rw [hdl]; simp, hob⟩
      rw [hat0, heap_setBlock_ne w o (fun e => hnb _ hlt e.symm)]; exact hb
  · by_cases e1 : t = .done g i tx
    · subst e1
      by_cases e2 : t' = .done g i tx
      · exact e2.symm
      · rw [hat0, hat t' e2] at he
        exact absurd he.symm (hnb t' (hlv' t' ht' e2))
    · by_cases e2 : t' = .done g i tx
      · subst e2
        rw [hat0, hat t e1] at he
        exact absurd he (hnb t (hlv' t ht e1))
      · rw [hat t e1, hat t' e2] at he
        exact h.inj t t' (hlv' t ht e1) (hlv' t' ht' e2) he
  · rw [hdl] at hd'
    split at hd'
    · rename_i e; obtain ⟨rfl, rfl, rfl⟩ := e; cases hd'
      obtain ⟨o', ho', hr⟩ := hpt
      have : ((L.put (.done g' j x) b).putParts g' j x (pb, cap)).pb g' j x = (pb, cap) := by simp [Lay.putParts]
      rw [this]
      exact ⟨o', (heap_setBlock_ne w o fun e => hpm ⟨_, hlt, e.symm⟩).trans ho', hr⟩
    · rename_i e
      obtain ⟨o', ho', hr⟩ := h.parts g' j x d' hd'
      have : ((L.put (.done g i tx) b).putParts g i tx (pb, cap)).pb g' j x = L.pb g' j x := by simp [Lay.putParts, Lay.put, e]
      rw [this]
      exact ⟨o', (heap_setBlock_ne w o fun e => h.apart g' j x d' _ hd' hlt e.symm).trans ho', hr⟩
  · rw [hdl] at hd'
    split at hd'
    · rename_i e; obtain ⟨rfl, rfl, rfl⟩ := e; cases hd'
      have : ((L.put (.done g' j x) b).putParts g' j x (pb, cap)).pb g' j x = (pb, cap) := by simp [Lay.putParts]
      rw [this]
      by_cases e1 : t = .done g' j x
      · subst e1; rw [hat0]; exact fun e => hpb e.symm
      · rw [hat t e1]; exact fun e => hpm ⟨t, hlv' t ht e1, e⟩
    · rename_i e
      have : ((L.put (.done g i tx) b).putParts g i tx (pb, cap)).pb g' j x = L.pb g' j x := by simp [Lay.putParts, Lay.put, e]
      rw [this]
      by_cases e1 : t = .done g i tx
      · subst e1; rw [hat0]; exact fun e' => hbf ⟨g', j, x, d', hd', e'.symm⟩
      · rw [hat t e1]; exact h.apart g' j x d' t hd' (hlv' t ht e1)

/-- 'n.count = c'. -/
theorem Rep.setCount (h : Rep w L N) (c : Int) : Rep (w.setCell ⟨L.at_ .net, 2, none⟩ (.int .i64 c)) L { N with count := c } := by
  refine h.one (t0 := .net) rfl (fun t ht => ?_) (fun g j tx d' hd' => ⟨d', hd', rfl⟩) (fun h => h) rfl (fun b hb => setCell_other w _ _ hb) (fun _ => ⟨_, setCell_same h.net _, ?_⟩) trivial
  · cases t <;> first | exact absurd rfl ht | rfl
  · simp only [Shape, Net.sd_length]; rfl

theorem zipIdx_set {α : Type} (l : List α) (i : Nat) (x : α) : (l.set i x).zipIdx = l.zipIdx.set i (x, i) := by
  refine List.ext_getElem? fun j => ?_
  rw [List.getElem?_set, List.getElem?_zipIdx, List.getElem?_set]
  by_cases e : i = j
  · subst e
    by_cases hl : i < l.length <;> simp [hl]
  · simp [e, List.getElem?_zipIdx]

/-- 's.stock = v' | 's.down = v': a cell of a site. -/
theorem Rep.setSd (h : Rep w L N) (hs : N.sites[i]? = some s) (hp : s'.promised = s.promised) (hk : s'.kept = s.kept) (hdr : s'.dropped = s.dropped) (hg : s'.granted = s.granted) (ho : s'.opened = s.opened)
    {j : Nat} {v : Value} (hj : j < 7) (hv : siteCells L ((s'.stock, s'.down), i) = (siteCells L ((s.stock, s.down), i)).set j v) :
    Rep (w.setCell ⟨L.at_ .sites, i * 7 + j, none⟩ v) L (N.setSite i s') := by
  obtain ⟨o0, ho0, hr⟩ := h.sitesAt
  obtain ⟨o1, ho1, hr1⟩ := hr.set ho0 (i * 7 + j) v
  have hds : ∀ g, s'.deals g = s.deals g := fun g => by cases g <;> simp [Site.deals, hg, ho]
  have hsd : (N.setSite i s').sd = N.sd.set i (s'.stock, s'.down) := by simp [Net.sd, Net.setSite, List.map_set]
  refine h.one (t0 := .sites) (setSite_length _ _ _) (fun t ht => ?_) (fun g j tx d' hd' => ?_) (fun h => h) rfl (fun b hb => setCell_other w _ _ hb) (fun _ => ⟨o1, ho1, ?_⟩) trivial
  · cases t with
    | net => exact ⟨by rw [hsd]; simp, rfl, rfl⟩
    | sites => exact absurd rfl ht
    | mail => rfl
    | prom j => simp only [Same, setSite_proms hs, hp]; split <;> simp_all [proms_at]
    | kept j => simp only [Same, setSite_kepts hs, hk]; split <;> simp_all [kepts_at]
    | drop j => simp only [Same, setSite_drops hs, hdr]; split <;> simp_all [drops_at]
    | deals g j => simp only [Same, setSite_deals hs, hds]; split <;> simp_all [deals_at]
    | done g j tx => simp only [Same, setSite_deal hs, hds]; split <;> simp_all [deal_at]
  · rw [setSite_deal hs] at hd'
    split at hd'
    · rename_i e; subst e; exact ⟨d', by rw [deal_at hs, ← hds]; exact hd', rfl⟩
    · exact ⟨d', hd', rfl⟩
  · simp only [Shape, hsd, List.length_set]
    have hx : N.sd.zipIdx[i]? = some ((s.stock, s.down), i) := by simp [List.getElem?_zipIdx, Net.sd, hs]
    rw [zipIdx_set, ← set_flat (fun x _ => siteCells7 L x) hj hx hv, Net.sd_length]
    exact hr1

theorem Rep.setStock (h : Rep w L N) (hs : N.sites[i]? = some s) (v : Int) : Rep (w.setCell ⟨L.at_ .sites, i * 7, none⟩ (.int .i64 v)) L (N.setSite i { s with stock := v }) :=
  h.setSd hs (s' := { s with stock := v }) rfl rfl rfl rfl rfl (j := 0) (by omega) rfl
theorem Rep.setDown (h : Rep w L N) (hs : N.sites[i]? = some s) (v : Bool) : Rep (w.setCell ⟨L.at_ .sites, i * 7 + 1, none⟩ (.bool v)) L (N.setSite i { s with down := v }) :=
  h.setSd hs (s' := { s with down := v }) rfl rfl rfl rfl rfl (j := 1) (by omega) rfl

theorem set_flat2 {α β : Type} {f f' : α → List β} {k : Nat} {l : List α} (h : ∀ x ∈ l, (f x).length = k) (h' : ∀ x ∈ l, (f' x).length = k) {i j : Nat} (hj : j < k) {x : α} (hx : l[i]? = some x) {v : β} (hf : f' x = (f x).set j v)
    (ho : ∀ n y, l[n]? = some y → n ≠ i → f' y = f y) : (l.flatMap f).set (i * k + j) v = l.flatMap f' := by
  refine List.ext_getElem? fun n => ?_
  have hk : 0 < k := by omega
  have hn : n = n / k * k + n % k := by rw [Nat.mul_comm]; exact (Nat.div_add_mod n k).symm
  have hm : n % k < k := Nat.mod_lt _ hk
  have e1 : (l.flatMap f)[n]? = (l[n / k]?).bind fun x => (f x)[n % k]? := by have := get_flat h (i := n / k) hm; rw [← hn] at this; exact this
  have e2 : (l.flatMap f')[n]? = (l[n / k]?).bind fun x => (f' x)[n % k]? := by have := get_flat h' (i := n / k) hm; rw [← hn] at this; exact this
  have hlen := length_flat h
  have hi : i < l.length := (List.getElem?_eq_some_iff.1 hx).1
  rw [List.getElem?_set, e1, e2]
  by_cases e : i * k + j = n
  · have hq : n / k = i := by rw [← e, Nat.mul_comm, Nat.mul_add_div hk, Nat.div_eq_of_lt hj]; omega
    have hr : n % k = j := by rw [← e, Nat.mul_comm, Nat.mul_add_mod, Nat.mod_eq_of_lt hj]
    have hb : i * k + j < (l.flatMap f).length := by
      rw [hlen]
      calc i * k + j < i * k + k := by omega
        _ = (i + 1) * k := by rw [Nat.succ_mul]
        _ ≤ l.length * k := Nat.mul_le_mul_right k hi
    rw [if_pos e, if_pos hb, hq, hx, hr]
    simp [hf, h x (List.mem_of_getElem? hx), hj]
  · rw [if_neg e]
    by_cases hq : n / k = i
    · have hr : n % k ≠ j := fun hr => e (by rw [← hq, ← hr]; exact hn.symm)
      rw [hq, hx]
      simp [hf, Ne.symm hr]
    · cases hl : l[n / k]? with
      | none => rfl
      | some y => simp [ho _ y hl hq]

/-- 's.open = map{}', a new block. -/
theorem Rep.newOpen (h : Rep w L N) (hs : N.sites[i]? = some s) {b : Nat} {ob : Obj} (hb : w.heap[b]? = some ob) (hob : MapObj okI (Value.int .i64) [] ob) (hbm : ¬ Mut L N b) (hbf : ¬ Fix L N b) :
    Rep (w.setCell ⟨L.at_ .sites, i * 7 + 6, none⟩ (.map (some b))) (L.put (.deals false i) b) (N.setSite i { s with opened := [] }) := by
  obtain ⟨o0, ho0, hr⟩ := h.sitesAt
  obtain ⟨o1, ho1, hr1⟩ := hr.set ho0 (i * 7 + 6) (.map (some b))
  have hat : ∀ t, t ≠ .deals false i → (L.put (.deals false i) b).at_ t = L.at_ t := fun t e => Lay.put_other L b e
  have hat0 : (L.put (.deals false i) b).at_ (.deals false i) = b := Lay.put_same L _ b
  have hdl : ∀ g' j x d', (N.setSite i { s with opened := [] }).deal g' j x = some d' → N.deal g' j x = some d' := fun g' j x d' hd' => by
    rw [setSite_deal hs] at hd'
    split at hd'
    · rename_i e; subst e
      rw [deal_at hs]
      cases g'
      · cases hd'
      · exact hd'
    · exact hd'
  have hlv : ∀ t, Live (L.put (.deals false i) b) (N.setSite i { s with opened := [] }) t → Live L N t := fun t ht => by
    cases t <;> simp only [Live, setSite_length] at ht ⊢ <;> first | exact ht | skip
    obtain ⟨d', hd'⟩ := Option.isSome_iff_exists.1 ht
    rw [hdl _ _ _ _ hd']; rfl
  have hnb : ∀ t, Live L N t → L.at_ t ≠ b := fun t ht e => hbm ⟨t, ht, e⟩
  have hsb : L.at_ .sites ≠ b := hnb .sites trivial
  refine h.change (fun t => t = .sites ∨ t = .deals false i) (fun t ht e => ⟨hlv t ht, hat t fun e' => e (.inr e'), fun o ho => ?_⟩) (fun t ht e => setCell_other w _ _ fun e' => e (.inl (h.inj t .sites ht trivial e'))) (fun t ht e => ?_) (fun t t' ht ht' e he => ?_)
    (fun g' j x d' hd' => ?_) (fun g' j x d' t hd' ht => ?_) h.mlen
  · have e1 : t ≠ .sites := fun e' => e (.inl e')
    have e2 : t ≠ .deals false i := fun e' => e (.inr e')
    cases t with
    | net => simp only [Shape, setSite_sd hs { s with opened := [] } rfl rfl] at ho ⊢; exact ho
    | sites => exact absurd rfl e1
    | mail => exact ho
    | prom j => simp only [Shape, setSite_proms hs] at ho ⊢; split <;> simp_all [proms_at]
    | kept j => simp only [Shape, setSite_kepts hs] at ho ⊢; split <;> simp_all [kepts_at]
    | drop j => simp only [Shape, setSite_drops hs] at ho ⊢; split <;> simp_all [drops_at]
    | deals g' j =>
      obtain ⟨m, hm, hM'⟩ := ho
      refine ⟨m, ?_, hM'⟩
      rw [setSite_deals hs]
      split
      · rename_i e3; subst e3
        cases g'
        · exact absurd rfl e2
        · rw [deals_at hs] at hm; exact hm
      · exact hm
    | done g' j x =>
      obtain ⟨d, hd, hM'⟩ := ho
      obtain ⟨d', hd'⟩ := Option.isSome_iff_exists.1 ht
      have := hdl _ _ _ _ hd'
      rw [hd] at this; cases this
      exact ⟨d, hd', hM'⟩
  · rcases e with rfl | rfl
    · refine ⟨o1, by rw [hat _ (by simp)]; exact ho1, ?_⟩
      simp only [Shape, setSite_sd hs { s with opened := [] } rfl rfl]
      have hx : N.sd.zipIdx[i]? = some ((s.stock, s.down), i) := by simp [List.getElem?_zipIdx, Net.sd, hs]
      have := set_flat2 (f := siteCells L) (f' := siteCells (L.put (.deals false i) b)) (l := N.sd.zipIdx) (k := 7) (j := 6) (fun x _ => siteCells7 L x) (fun x _ => siteCells7 _ x) (by omega) hx (v := .map (some b)) (by simp [siteCells, Lay.put])
        (fun n y hy hn => by
          have : y.2 = n := by rw [List.getElem?_zipIdx, Option.map_eq_some_iff] at hy; obtain ⟨z, _, rfl⟩ := hy; simp
          have : y.2 ≠ i := by omega
          simp [siteCells, Lay.put, this])
      rw [← this, Net.sd_length]
      exact hr1
    · exact ⟨ob, by rw [hat0, setCell_other w _ _ (Ne.symm hsb)]; exact hb, [], by rw [setSite_deals hs]; simp [Site.deals], hob⟩
  · by_cases e1 : t = .deals false i
    · subst e1
      by_cases e2 : t' = .deals false i
      · exact e2.symm
      · rw [hat0, hat t' e2] at he
        exact absurd he.symm (hnb t' (hlv t' ht'))
    · by_cases e2 : t' = .deals false i
      · subst e2
        rw [hat0, hat t e1] at he
        exact absurd he (hnb t (hlv t ht))
      · rw [hat t e1, hat t' e2] at he
        exact h.inj t t' (hlv t ht) (hlv t' ht') he
  · obtain ⟨o', ho', hr'⟩ := h.parts g' j x d' (hdl _ _ _ _ hd')
    exact ⟨o', (setCell_other w _ _ fun e => h.apart g' j x d' .sites (hdl _ _ _ _ hd') trivial e.symm).trans ho', hr'⟩
  · by_cases e1 : t = .deals false i
    · subst e1; rw [hat0]; exact fun e' => hbf ⟨g', j, x, d', hdl _ _ _ _ hd', e'.symm⟩
    · rw [hat t e1]; exact h.apart g' j x d' t (hdl _ _ _ _ hd') (hlv t ht)

/-- The letters turn: 'n.mail = ..', behind an append or a cut that has turned the letters' own row alone. -/
theorem Rep.setMail (h : Rep w L N) {w1 : World} (hw : Only (fun b => 0 < L.mcap ∧ b = L.at_ .mail) w w1) {l : List Mail} {g cap : Nat} {o : Obj} (hg : w1.heap[g]? = some o) (hr : IsRow 77 5 l.length cap (l.flatMap Mail.cells) o)
    (hc : 0 < cap) (hgo : (0 < L.mcap ∧ g = L.at_ .mail) ∨ w.heap.size ≤ g) :
    Rep (w1.setCell ⟨L.at_ .net, 1, none⟩ (.slice (some ⟨g, 0, none⟩) l.length cap)) { L.put .mail g with mcap := cap } { N with mail := l } := by
  have hlm : ∀ t, t ≠ .mail → Live { L.put .mail g with mcap := cap } { N with mail := l } t → Live L N t := fun t e ht => by cases t <;> first | exact absurd rfl e | exact ht
  have hat : ∀ t, t ≠ .mail → ({ L.put .mail g with mcap := cap } : Lay).at_ t = L.at_ t := fun t e => Lay.put_other L g e
  have hat0 : ({ L.put .mail g with mcap := cap } : Lay).at_ .mail = g := Lay.put_same L .mail g
  have hng : ∀ t, t ≠ .mail → Live L N t → L.at_ t ≠ g := fun t e ht e' => by
    rcases hgo with ⟨hm, rfl⟩ | hgo
    · exact e (h.inj t .mail ht hm e')
    · have := h.mut_lt ⟨t, ht, rfl⟩; omega
  have hnet1 : w1.heap[L.at_ .net]? = w.heap[L.at_ .net]? := hw.block _ h.netLt (fun ⟨hm, e⟩ => by have := h.inj .net .mail trivial hm e; cases this)
  have hold : ∀ t, t ≠ .mail → Live L N t → w1.heap[L.at_ t]? = w.heap[L.at_ t]? := fun t e ht => hw.block _ (h.mut_lt ⟨t, ht, rfl⟩) (fun ⟨hm, e'⟩ => e (h.inj t .mail ht hm e'))
  refine h.change (fun t => t = .net ∨ t = .mail) (fun t ht e => ⟨hlm t (fun e' => e (.inr e')) ht, hat t fun e' => e (.inr e'), fun o ho => ?_⟩) (fun t ht e => ?_) (fun t ht e => ?_) (fun t t' ht ht' e he => ?_)
    (fun g' j x d' hd' => ?_) (fun g' j x d' t hd' ht => ?_) hr.le.1
  · have e1 : t ≠ .net := fun e' => e (.inl e')
    have e2 : t ≠ .mail := fun e' => e (.inr e')
    cases t <;> first | exact absurd rfl e1 | exact absurd rfl e2 | exact ho
  · have e2 : t ≠ .mail := fun e' => e (.inr e')
    rw [setCell_other w1 _ _ (fun e' => e (.inl (h.inj t .net ht trivial e'))), hold t e2 ht]
  · rcases e with rfl | rfl
    · refine ⟨_, by rw [hat _ (by simp)]; exact setCell_same (hnet1.trans h.net) _, ?_⟩
      have hne : ¬ cap = 0 := by omega
      simp only [Shape, Net.sd_length, mailV, hne, if_false, hat0]
      rfl
    · exact ⟨o, by rw [hat0, setCell_other w1 _ _ (fun e => hng .net (by simp) trivial e.symm)]; exact hg, hr⟩
  · by_cases e1 : t = .mail
    · subst e1
      by_cases e2 : t' = .mail
      · exact e2.symm
      · rw [hat0, hat t' e2] at he
        exact absurd he.symm (hng t' e2 (hlm t' e2 ht'))
    · by_cases e2 : t' = .mail
      · subst e2
        rw [hat0, hat t e1] at he
        exact absurd he (hng t e1 (hlm t e1 ht))
      · rw [hat t e1, hat t' e2] at he
        exact h.inj t t' (hlm t e1 ht) (hlm t' e2 ht') he
  · obtain ⟨o', ho', hr'⟩ := h.parts g' j x d' hd'
    refine ⟨o', ?_, hr'⟩
    show (w1.setCell ⟨L.at_ .net, 1, none⟩ (.slice (some ⟨g, 0, none⟩) l.length cap)).heap[(L.pb g' j x).1]? = some o'
    rw [setCell_other w1 _ _ (fun e => h.apart g' j x d' .net hd' trivial e.symm), hw.block _ (lt_of ho') (fun ⟨hm, e⟩ => h.apart g' j x d' .mail hd' hm e.symm)]
    exact ho'
  · by_cases e1 : t = .mail
    · subst e1
      rw [hat0]
      rcases hgo with ⟨hm, rfl⟩ | hgo
      · exact h.apart g' j x d' .mail hd' hm
      · intro e
        obtain ⟨o', ho', _⟩ := h.parts g' j x d' hd'
        have := lt_of ho'
        have e' : g = (L.pb g' j x).1 := e
        omega
    · rw [hat t e1]; exact h.apart g' j x d' t hd' (hlm t e1 ht)
end

end Go.Proofs.Ytfmfgckfeojfcaa
