/- Walks of package pact: Cancel, Settled. -/
import Derived.Test.YtfmfgckfeojfcaaStepQ
set_option linter.unusedSimpArgs false
set_option linter.unusedVariables false
namespace Go.Proofs.Ytfmfgckfeojfcaa
open Go.RowKit Go.Maps Go.ChangeMaps

set_option maxRecDepth 20000 in
set_option maxHeartbeats 1000000 in
theorem cancel_any {w : World} {L : Lay} {N : Net} (h : Rep w L N) (hok : N.Ok) (k : Int) {tx : Int} (htx : i64 tx) :
    Calls Try.prog 22 #[netPtr L, .int .i64 k, .int .i64 tx] w fun e w' => e = .returned (.int .i64 (N.cancel k tx).2) ∧ Moves w L N w' (N.cancel k tx).1 := by
  rcases awake_cases h hok k with ⟨i, s, rfl, hs, hd, hA⟩ | ⟨er, hA, her, hC⟩
  · have hup := awake_up h hok.eight hs hd
    have hmail := hok.mail
    have hsok := hok.at hs
    have hmv := Moved.refl h
    have c6 := h.site6 hs
    have hsl := h.sitesLt
    obtain ⟨a, n, c, mb, hfound, o, ho, hlook⟩ := hmv.rep.lookDeal hs false htx
    have hl := looks ho hlook
    obtain ⟨o3, o3', ho3, hrun3, hto3⟩ := hmv.dropDeal hs false htx (rising_nodup (hsok.dealR false))
    have ht3 := fun ty => turns ho3 (fun W => hrun3 W ty)
    have HT3 := Lib.hid hto3
    have HU := Lib.hid hup
    cases hp : AL.has tx (Site.deals false s) with
    | false =>
      have e : N.cancel i tx = (N, 6) := by
        unfold Net.cancel; rw [hA]; simp only; rw [has_get_none (m := s.opened) hp]
      rw [e]
      have hfin := fun A => (hmv.alloc A).moves
      have HF := Lib.hid hfin
      rw [hp] at hl
      clear hlook h ho ho3 hrun3 hto3 hp hfound hA e hup hfin hmv
      unfold netPtr sitePtr at *
      go_enter Try.func22, Try.ntmps22
      go_wp2_with fail
      refine HU.out.mono ?_
      rintro e w' ⟨rfl, rfl⟩
      go_wp2
      go_ret
      exact ⟨rfl, HF.out _⟩
    | true =>
      obtain ⟨d, hd⟩ := has_get hp
      obtain ⟨rfl, rfl, rfl, rfl⟩ := hfound d hd
      have hdN := deal_of hs hd
      have hdok := hok.dealOk hs hd
      have hpt := hmv.rep.parts _ _ _ _ hdN
      have hpm : ¬ Mut L N (L.pb false i tx).1 := fun ⟨t, ht, e⟩ => h.apart _ _ _ _ t hdN ht e
      have e : N.cancel i tx = ((N.setSite i { s with opened := AL.del tx s.opened }).tell i 5 tx d.parts nobody, 0) := by
        unfold Net.cancel; rw [hA]; simp only; rw [show AL.get? tx s.opened = some d from hd]; rfl
      rw [e]
      rw [hp] at hl
      obtain ⟨w3, hw3, hmv3, hpt3, hbd3⟩ : ∃ w3, w3 = setBlock (w.alloc (.cells #[.slice (some ⟨(L.pb false i tx).1, 0, none⟩) d.parts.length (L.pb false i tx).2, .map (some (L.at_ (.done false i tx)))] 73)) (L.at_ (.deals false i)) o3' ∧
          Moved w L N w3 L (N.setSite i (s.withDeals false (AL.del tx (s.deals false)))) ∧ PartsAt w3 (L.pb false i tx) d.parts ∧ BoxD w3 w.heap.size (some ⟨(L.pb false i tx).1, 0, none⟩) d.parts.length (L.pb false i tx).2 (some (L.at_ (.done false i tx))) :=
        ⟨_, rfl, HT3.out _ (hmv.alloc _), (hpt.alloc _).block (fun e => hpm ⟨.deals false i, by simp [Live]; exact siteLt hs, e.symm⟩) o3', (BoxD.of _ _ _ _).block (fun e => by have := hmv.rep.mut_lt ⟨.deals false i, by simp [Live]; exact siteLt hs, rfl⟩; omega) o3'⟩
      have hpm3 : ¬ Mut L (N.setSite i (s.withDeals false (AL.del tx (s.deals false)))) (L.pb false i tx).1 := fun hm => hpm (mut_del hs false _ hm)
      have hcall := tell_any hmv3.rep hmail i 5 tx (pb := (L.pb false i tx).1) (cap := (L.pb false i tx).2) hpt3 hpm3 (by have := hdok.len; omega) 35 #[] nobody call_nobody (fun W L' N' _ x => nobody_any x W)
      have hfin : ∀ w', Sents w3 L (N.setSite i (s.withDeals false (AL.del tx (s.deals false)))) w' ((N.setSite i (s.withDeals false (AL.del tx (s.deals false)))).tell i 5 tx d.parts nobody) → Moves w L N w' ((N.setSite i { s with opened := AL.del tx s.opened }).tell i 5 tx d.parts nobody) := fun w' hS => Moves.after hmv3 hS
      have hbdc3 := hbd3.cells
      rw [hw3] at hbdc3
      have HC := Lib.hid hcall
      have HF := Lib.hid hfin
      have HW3 := Lib.hid hw3
      clear hlook h ho ho3 hrun3 hto3 hp hfound hd hdN hpt hpm hA e hup hcall hfin hw3 hmv3 hpt3 hbd3 hpm3
      unfold netPtr sitePtr at *
      go_enter Try.func22, Try.ntmps22
      go_wp2_with fail
      refine HU.out.mono ?_
      rintro e w' ⟨rfl, rfl⟩
      go_wp2_with fail
      rw [← HW3.out]
      refine HC.out.mono ?_
      rintro e w' ⟨rfl, hS⟩
      have HF2 := Lib.hid (HF.out _ hS)
      clear hS
      go_wp2
      go_ret
      exact ⟨rfl, HF2.out⟩
  · have e : N.cancel k tx = (N, er) := by simp [Net.cancel, hA]
    rw [e]
    have hM := Moves.refl h
    have hz : (er == 0) = false := by simpa using her
    have HM := Lib.hid hM
    have HC := Lib.hid hC
    clear hM hC hA e h hok her
    unfold netPtr at *
    go_enter Try.func22, Try.ntmps22
    go_wp2_with fail
    refine HC.out.mono ?_
    rintro e w' ⟨rfl, rfl⟩
    go_wp2
    go_ret
    exact ⟨rfl, HM.out⟩
end Go.Proofs.Ytfmfgckfeojfcaa
