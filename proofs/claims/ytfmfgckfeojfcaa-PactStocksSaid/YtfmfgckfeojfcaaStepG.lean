/- Walks of package pact: what a site does that is told, or asked, what became of a transaction. -/
import Derived.Test.YtfmfgckfeojfcaaStepF
set_option linter.unusedSimpArgs false
set_option linter.unusedVariables false
namespace Go.Proofs.Ytfmfgckfeojfcaa
open Go.RowKit Go.Maps Go.ChangeMaps

set_option maxRecDepth 20000 in
set_option maxHeartbeats 1000000 in
theorem wondered_any {w : World} {L : Lay} {N : Net} (h : Rep w L N) (hok : N.Ok) {i : Nat} {s : Site} (hs : N.sites[i]? = some s) {m : Mail} (hm : m.Ok N.sites.length N.count) :
    Calls Try.prog 61 #[netPtr L, sitePtr L i, m.val] w fun e w' => e = .returned (.tuple #[]) ∧ Moves w L N w' (N.wondered s m) := by
  have hmail := hok.mail
  have htx := hm.txI hok.count.2
  unfold netPtr sitePtr Mail.val
  obtain ⟨w1, hw1⟩ : ∃ w1, w1 = w.alloc (.cells #[.int .i64 m.src, .int .i64 m.dst, .int .i64 m.kind, .int .i64 m.tx, .int .i64 m.n] 77) := ⟨_, rfl⟩
  have hbox : BoxM w1 w.heap.size m := hw1 ▸ BoxM.new w m
  have hmv : Moved w L N w1 L N := hw1 ▸ (Moved.refl h).alloc _
  have hbc := hbox.cells
  have c5 := hmv.rep.site5 hs
  have c6 := hmv.rep.site6 hs
  have hslt := hmv.rep.sitesLt
  obtain ⟨a, n, c, mb, _, o, ho, hlook⟩ := hmv.rep.lookDeal hs true htx
  obtain ⟨a2, n2, c2, mb2, _, o2, ho2, hlook2⟩ := hmv.rep.lookDeal hs false htx
  have hl := looks ho hlook
  have hl3 := looks ho2 hlook2
  have HW1 := Lib.hid hw1
  have hfin : ∀ A B w', (AL.has m.tx (Site.deals true s) = true → Sents ((w1.alloc A).alloc B).drew.drew L N w' (N.reply m 4)) → (AL.has m.tx (Site.deals true s) = false → AL.has m.tx (Site.deals false s) = true → w' = ((w1.alloc A).alloc B).drew.drew) →
      (AL.has m.tx (Site.deals true s) = false → AL.has m.tx (Site.deals false s) = false → Sents ((w1.alloc A).alloc B).drew.drew L N w' (N.reply m 5)) → Moves w L N w' (N.wondered s m) := fun A B w' h1 h2 h3 => by
    unfold Net.wondered
    have hm2 : Moved w L N ((w1.alloc A).alloc B).drew.drew L N := ((hmv.alloc _).alloc _).drew.drew
    cases hg : AL.has m.tx (Site.deals true s) with
    | true => have e1 : AL.has m.tx s.granted = true := hg; rw [if_pos e1]; exact Moves.after hm2 (h1 hg)
    | false =>
      rw [if_neg (by rw [show AL.has m.tx s.granted = false from hg]; simp)]
      cases hg2 : AL.has m.tx (Site.deals false s) with
      | true => have e1 : AL.has m.tx s.opened = true := hg2; rw [if_pos e1, h2 hg hg2]; exact hm2.moves
      | false => rw [if_neg (by rw [show AL.has m.tx s.opened = false from hg2]; simp)]; exact Moves.after hm2 (h3 hg hg2)
  have HFin := Lib.hid hfin
  clear hlook hlook2 hw1 h ho ho2 hfin
  go_enter Try.func61, Try.ntmps61
  go_wp2
  rw [← HW1.out]
  generalize w.heap.size = bm at hbox hbc ⊢
  clear HW1
  go_region
  go_wp2
  go_region
  cases hg : AL.has m.tx (Site.deals true s) with
  | true =>
    have HG := Lib.hid hg
    clear hg
    go_wp2_with fail
    refine (reply_any ((hmv.alloc _).alloc _).drew.drew.rep hmail m 4).mono ?_
    rintro e w' ⟨rfl, hS⟩
    have HF := Lib.hid (HFin.out _ _ w' (fun _ => hS) (fun e => by rw [HG.out] at e; cases e) (fun e => by rw [HG.out] at e; cases e))
    clear hS
    go_wp2
    go_end0
    exact ⟨rfl, HF.out⟩
  | false =>
    have HG := Lib.hid hg
    clear hg
    cases hg2 : AL.has m.tx (Site.deals false s) with
    | true =>
      have HG2 := Lib.hid hg2
      clear hg2
      go_wp2
      go_end0
      exact ⟨rfl, HFin.out _ _ _ (fun e => by rw [HG.out] at e; cases e) (fun _ _ => rfl) (fun _ e => by rw [HG2.out] at e; cases e)⟩
    | false =>
      have HG2 := Lib.hid hg2
      clear hg2
      go_wp2_with fail
      refine (reply_any ((hmv.alloc _).alloc _).drew.drew.rep hmail m 5).mono ?_
      rintro e w' ⟨rfl, hS⟩
      have HF := Lib.hid (HFin.out _ _ w' (fun e => by rw [HG.out] at e; cases e) (fun _ e => by rw [HG2.out] at e; cases e) (fun _ _ => hS))
      clear hS
      go_wp2
      go_end0
      exact ⟨rfl, HF.out⟩

set_option maxRecDepth 20000 in
set_option maxHeartbeats 1000000 in
theorem aborted_any {w : World} {L : Lay} {N : Net} (h : Rep w L N) (hok : N.Ok) {i : Nat} {s : Site} (hs : N.sites[i]? = some s) {m : Mail} (hm : m.Ok N.sites.length N.count) :
    Calls Try.prog 59 #[netPtr L, sitePtr L i, m.val] w fun e w' => e = .returned (.tuple #[]) ∧ Moves w L N w' (N.aborted i s m) := by
  have hsok := hok.at hs
  have htx := hm.txI hok.count.2
  unfold netPtr sitePtr Mail.val
  obtain ⟨w1, hw1⟩ : ∃ w1, w1 = w.alloc (.cells #[.int .i64 m.src, .int .i64 m.dst, .int .i64 m.kind, .int .i64 m.tx, .int .i64 m.n] 77) := ⟨_, rfl⟩
  have hbox : BoxM w1 w.heap.size m := hw1 ▸ BoxM.new w m
  have hbm : ¬ Mut L N w.heap.size := h.new_mut (Nat.le_refl _)
  have hmv : Moved w L N w1 L N := hw1 ▸ (Moved.refl h).alloc _
  have hbc := hbox.cells
  have c2 := hmv.rep.site2 hs
  have hslt := hmv.rep.sitesLt
  obtain ⟨pa, pb, _, o, ho, hlook⟩ := hmv.rep.lookProm hs htx
  have hl := looks ho hlook
  obtain ⟨o3, o3', ho3, hrun3, hto3⟩ := hmv.delProm hs htx
  have ht3 := fun ty => turns ho3 (fun W => hrun3 W ty)
  have hlt3 := lt_of ho3
  have HW1 := Lib.hid hw1
  have HBM := Lib.hid hbm
  have HT3 := Lib.hid hto3
  clear hlook hw1 h ho ho3 hrun3 hto3 hbm
  go_enter Try.func59, Try.ntmps59
  go_wp2
  rw [← HW1.out]
  generalize w.heap.size = bm at hbox hbc HBM ⊢
  clear HW1
  go_region
  cases hp : AL.has m.tx s.promised with
  | false =>
    have hfin : ∀ A, Moves w L N (w1.alloc A).drew (N.aborted i s m) := fun A => by
      unfold Net.aborted; rw [hp]; simp only [Bool.false_eq_true, if_false]
      exact (hmv.alloc _).drew.moves
    have HF := Lib.hid hfin
    clear hp hfin
    go_wp2
    go_end0
    exact ⟨rfl, HF.out _⟩
  | true =>
    have HP := Lib.hid hp
    clear hp
    go_wp2
    go_region
    obtain ⟨w3, hw3, hmv3, hbox3⟩ : ∃ w3, w3 = setBlock (w1.alloc (.cells #[.int .i64 pa, .int .i64 pb] 69)).drew.drew (L.at_ (.prom i)) o3' ∧ Moved w L N w3 L (N.setSite i { s with promised := AL.del m.tx s.promised }) ∧ BoxM w3 bm m :=
      ⟨_, rfl, HT3.out _ (hmv.alloc _).drew.drew, ((hbox.alloc _).drew.drew).block (fun e => HBM.out ⟨.prom i, by simp [Live]; exact siteLt hs, e.symm⟩) o3'⟩
    rw [← hw3]
    have hs3 := setSite_at hs { s with promised := AL.del m.tx s.promised }
    have d4 := hmv3.rep.site4 hs3
    have hslt3 := hmv3.rep.sitesLt
    have hbc3 := hbox3.cells
    obtain ⟨o4, o4', ho4, hrun4, hto4⟩ := hmv3.putDrop hs3 htx (by have := hsok.dropLen hok.count; simp; omega)
    have ht4 := turns ho4 hrun4
    have hfin := (hto4 w3.drew hmv3.drew).moves
    rw [setSite_twice] at hfin
    have hfin2 : Moves w L N (setBlock w3.drew (L.at_ (.drop i)) o4') (N.aborted i s m) := by
      unfold Net.aborted; rw [if_pos HP.out]; exact hfin
    have HF := Lib.hid hfin2
    clear hw3 hl ht3 c2 hslt hlt3 hbc hbox hbox3 hmv hmv3 hs3 hrun4 hto4 ho4 hfin hfin2
    go_wp2
    go_region
    go_wp2
    go_end0
    exact ⟨rfl, HF.out⟩

set_option maxRecDepth 20000 in
set_option maxHeartbeats 1000000 in
theorem committed_any {w : World} {L : Lay} {N : Net} (h : Rep w L N) (hok : N.Ok) {i : Nat} {s : Site} (hs : N.sites[i]? = some s) {m : Mail} (hm : m.Ok N.sites.length N.count) :
    Calls Try.prog 58 #[netPtr L, sitePtr L i, m.val] w fun e w' => e = .returned (.tuple #[]) ∧ Moves w L N w' (N.committed i s m) := by
  have hmail := hok.mail
  have hsok := hok.at hs
  have htx := hm.txI hok.count.2
  unfold netPtr sitePtr Mail.val
  obtain ⟨w1, hw1⟩ : ∃ w1, w1 = w.alloc (.cells #[.int .i64 m.src, .int .i64 m.dst, .int .i64 m.kind, .int .i64 m.tx, .int .i64 m.n] 77) := ⟨_, rfl⟩
  have hbox : BoxM w1 w.heap.size m := hw1 ▸ BoxM.new w m
  have hbm : ¬ Mut L N w.heap.size := h.new_mut (Nat.le_refl _)
  have hmv : Moved w L N w1 L N := hw1 ▸ (Moved.refl h).alloc _
  have hbc := hbox.cells
  have c0 := hmv.rep.site0 hs
  have c2 := hmv.rep.site2 hs
  have c3 := hmv.rep.site3 hs
  have f0 := hmv.rep.sitesFree (i * 7)
  have hslt := hmv.rep.sitesLt
  obtain ⟨pa, pb, hpab, o, ho, hlook⟩ := hmv.rep.lookProm hs htx
  obtain ⟨o5, ho5, hM5⟩ := hmv.rep.keptAt hs
  have hl := looks ho hlook
  have hl5 := looks ho5 (hM5.lookSet htx _)
  have HW1 := Lib.hid hw1
  have HBM := Lib.hid hbm
  have HP := Lib.hid hpab
  clear hlook hw1 h ho ho5 hM5 hbm hpab
  go_enter Try.func58, Try.ntmps58
  go_wp2
  rw [← HW1.out]
  generalize w.heap.size = bm at hbox hbc HBM ⊢
  clear HW1
  go_region
  cases hp : AL.has m.tx s.promised with
  | false =>
    have HNone := Lib.hid (has_get_none hp)
    clear hp
    go_wp2
    go_region
    cases hk : AL.has m.tx s.kept with
    | false =>
      have hfin : ∀ A, Moves w L N (w1.alloc A).drew.drew (N.committed i s m) := fun A => by
        unfold Net.committed; rw [HNone.out]; simp only [hk, Bool.false_eq_true, if_false]
        exact (hmv.alloc _).drew.drew.moves
      have HF := Lib.hid hfin
      clear hfin hk
      go_wp2
      go_end0
      exact ⟨rfl, HF.out _⟩
    | true =>
      have HK := Lib.hid hk
      clear hk
      go_wp2_with fail
      refine (reply_any (hmv.alloc _).drew.drew.rep hmail m 6).mono ?_
      rintro e w' ⟨rfl, hS⟩
      have hfin : Moves w L N w' (N.committed i s m) := by
        unfold Net.committed; rw [HNone.out]; simp only [HK.out, if_true]
        exact Moves.after (hmv.alloc _).drew.drew hS
      have HF := Lib.hid hfin
      clear hfin hS
      go_wp2
      go_end0
      exact ⟨rfl, HF.out⟩
  | true =>
    obtain ⟨p, hpp⟩ := has_get hp
    obtain ⟨rfl, rfl⟩ := HP.out p hpp
    have hpc := hsok.promC _ (AL.mem_of_get? hpp)
    have hst := hsok.stockB
    obtain ⟨hpc1, hpc2⟩ := hpc
    obtain ⟨hst1, hst2⟩ := hst
    simp only at hpc1 hpc2
    have HG := Lib.hid hpp
    clear hp hpp HP
    go_wp2
    go_region
    go_wp2
    obtain ⟨w2, hw2, hmv2, hbox2⟩ : ∃ w2, w2 = ((w1.setCell ⟨L.at_ .sites, i * 7, none⟩ (.int .i64 (s.stock + p.2))).alloc (.cells #[.int .i64 p.1, .int .i64 p.2] 69)).drew.drew ∧ Moved w L N w2 L (N.setSite i { s with stock := s.stock + p.2 }) ∧ BoxM w2 bm m :=
      ⟨_, rfl, ((hmv.setStock hs (s.stock + p.2)).alloc _).drew.drew, (((hbox.cell (a := ⟨L.at_ .sites, i * 7, none⟩) (fun e => HBM.out ⟨.sites, trivial, e.symm⟩) _).alloc _).drew.drew)⟩
    rw [← hw2]
    have hs2 := setSite_at hs { s with stock := s.stock + p.2 }
    have d2 := hmv2.rep.site2 hs2
    have hslt2 := hmv2.rep.sitesLt
    have hbc2 := hbox2.cells
    obtain ⟨o3, o3', ho3, hrun3, hto3⟩ := hmv2.delProm hs2 htx
    have ht3 := fun ty => turns ho3 (fun W => hrun3 W ty)
    obtain ⟨w3, hw3, hmv3, hbox3⟩ : ∃ w3, w3 = setBlock w2.drew (L.at_ (.prom i)) o3' ∧ Moved w L N w3 L (N.setSite i { s with stock := s.stock + p.2, promised := AL.del m.tx s.promised }) ∧ BoxM w3 bm m :=
      ⟨_, rfl, by have := hto3 _ hmv2.drew; rw [setSite_twice] at this; exact this, hbox2.drew.block (fun e => HBM.out ⟨.prom i, by simp [Live]; exact siteLt hs, e.symm⟩) o3'⟩
    have HM3 := Lib.hid hmv3
    have HB3 := Lib.hid hbox3
    have HW3 := Lib.hid hw3
    clear hw2 hw3 hmv3 hbox3 hl hl5 c0 c2 c3 f0 hslt hbc hbox hbox2 hmv hmv2 hto3 hrun3 ho3 hs2
    go_region
    rw [← HW3.out]
    have hmv3 := HM3.out
    have hbox3 := HB3.out
    clear HM3 HB3 HW3 ht3 d2 hslt2 hbc2
    have hs3 := setSite_at hs { s with stock := s.stock + p.2, promised := AL.del m.tx s.promised }
    have d3 := hmv3.rep.site3 hs3
    have hslt3 := hmv3.rep.sitesLt
    have hbc3 := hbox3.cells
    obtain ⟨o4, o4', ho4, hrun4, hto4⟩ := hmv3.putKept hs3 htx (by have := hsok.keptLen hok.count; simp; omega)
    have ht4 := turns ho4 hrun4
    obtain ⟨w4, hw4, hmv4, hbox4⟩ : ∃ w4, w4 = setBlock w3.drew (L.at_ (.kept i)) o4' ∧ Moved w L N w4 L (N.setSite i { s with stock := s.stock + p.2, promised := AL.del m.tx s.promised, kept := AL.put m.tx () s.kept }) ∧ BoxM w4 bm m :=
      ⟨_, rfl, by have := hto4 _ hmv3.drew; rw [setSite_twice] at this; exact this, hbox3.drew.block (fun e => HBM.out ⟨.kept i, by simp [Live]; exact siteLt hs, e.symm⟩) o4'⟩
    have HM4 := Lib.hid hmv4
    have HB4 := Lib.hid hbox4
    have HW4 := Lib.hid hw4
    clear hw4 hmv4 hbox4 hbox3 hmv3 hto4 hrun4 ho4 hs3
    go_wp2
    go_region
    rw [← HW4.out]
    have hmv4 := HM4.out
    have hbox4 := HB4.out
    clear HM4 HB4 HW4 ht4 d3 hslt3 hbc3
    have hs4 := setSite_at hs { s with stock := s.stock + p.2, promised := AL.del m.tx s.promised, kept := AL.put m.tx () s.kept }
    have e3 := hmv4.rep.site3 hs4
    have hslt4 := hmv4.rep.sitesLt
    have hbc4 := hbox4.cells
    obtain ⟨o6, ho6, hM6⟩ := hmv4.rep.keptAt hs4
    have hl6 := looks ho6 (hM6.lookSet htx _)
    have hhas : AL.has m.tx (AL.put m.tx () s.kept) = true := has_of_get (AL.get?_put_same _ _ (rising_nodup hsok.keptR))
    simp only [hhas] at hl6
    clear hhas ho6 hM6 hs4
    go_wp2
    go_region
    go_wp2_with fail
    refine (reply_any hmv4.drew.rep hmail m 6).mono ?_
    rintro e w' ⟨rfl, hS⟩
    have hfin : Moves w L N w' (N.committed i s m) := by
      unfold Net.committed; rw [HG.out]
      exact Moves.after hmv4.drew hS
    have HF := Lib.hid hfin
    clear hfin hS hl6 e3 hslt4 hbc4
    go_wp2
    go_end0
    exact ⟨rfl, HF.out⟩
end Go.Proofs.Ytfmfgckfeojfcaa
