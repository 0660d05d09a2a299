/- Walks of package pact: tell, the exception asked at the parts' sites alone. -/
import Derived.Test.YtfmfgckfeojfcaaStepC
set_option linter.unusedSimpArgs false
set_option linter.unusedVariables false
namespace Go.Proofs.Ytfmfgckfeojfcaa
open Go.RowKit Go.Maps Go.ChangeMaps

set_option maxHeartbeats 1000000 in
theorem tell_in {w : World} {L : Lay} {N : Net} (h : Rep w L N) (hm : N.mail.length ≤ 1024) (src kind tx : Int) {pb cap : Nat} {ps : List Move} (hp : PartsAt w (pb, cap) ps) (hpm : ¬ Mut L N pb) (hpl : ps.length ≤ 64)
    (bf : FuncId) (bc : Array Value) (but : Int → Bool) (hcall : ∀ (args : Array Value) (w : World), (callFunc bf args).run Try.prog w = .ok (.enter bf args) w) (hbut : ∀ W L' N', Sent w L N W L' N' → ∀ x, (∃ p ∈ ps, p.site = x) → Calls Try.prog bf (#[.int .i64 x] ++ bc) W fun e w' => e = .returned (.bool (but x)) ∧ W = w') :
    Calls Try.prog 34 #[netPtr L, .int .i64 src, .int .i64 kind, .int .i64 tx, .slice (some ⟨pb, 0, none⟩) ps.length cap, .func (.func bf) #[] bc] w fun e w' => e = .returned (.tuple #[]) ∧ Sents w L N w' (N.tell src kind tx ps but) := by
  unfold netPtr
  have HBut := Lib.hid hbut
  have HStart := Lib.hid (Sents.refl h)
  have hplt : pb < w.heap.size := by obtain ⟨o, ho, _⟩ := hp; exact lt_of ho
  have HPt := Lib.hid hp
  have HPm := Lib.hid hpm
  clear hbut hp hpm
  obtain ⟨n, hn⟩ : ∃ n, ps.length = n := ⟨_, rfl⟩
  rw [hn] at hpl ⊢
  have HN := Lib.hid hn
  clear hn
  have HR := Lib.hid h
  clear h
  go_enter Try.func34, Try.ntmps34
  go_wp2
  go_loopw [17] (fun i wr => ∃ k : Nat, i = .int .i64 k ∧ k ≤ n ∧ Sents w L N wr ((ps.take k).foldl (Net.tell1 src kind tx but) N)) (fun i _ => n - (intOf i).toNat)
  case atStart => exact ⟨0, rfl, Nat.zero_le _, HStart.out⟩
  case round =>
    obtain ⟨k, rfl, hk, L1, hS⟩ := hrel
    by_cases hlt : k < n
    · have hk' : k < ps.length := by rw [HN.out]; exact hlt
      obtain ⟨x, hx⟩ : ∃ x, ps[k]? = some x := ⟨ps[k], by simp⟩
      have hpr := HPt.out.only hS.moved.only HPm.out
      have c0 := hpr.cell0 hx
      have c1 := hpr.cell1 hx
      have hpl2 : pb < wr.heap.size := by have := hS.moved.only.size; omega
      have hfold : (ps.take (k + 1)).foldl (Net.tell1 src kind tx but) N = Net.tell1 src kind tx but ((ps.take k).foldl (Net.tell1 src kind tx but) N) x := by
        rw [List.take_add_one, hx]; simp
      have hle := foldl_tell1_le src kind tx but (ps.take k) N hm
      generalize (ps.take k).foldl (Net.tell1 src kind tx but) N = N1 at hS hfold hle
      have hb := fun o => HBut.out _ _ _ (hS.alloc o) x.site ⟨x, List.mem_of_getElem? hx, rfl⟩
      have hs := fun o t c => send_any (hS.moved.rep.alloc o) hle src t kind tx c
      have hnx := fun o w' N' (hs : Sents (wr.alloc o) L1 N1 w' N') => (⟨_, (hS.alloc o).trans hs.choose_spec⟩ : Sents w L N w' N')
      have hst := fun o => (⟨_, hS.alloc o⟩ : Sents w L N (wr.alloc o) N1)
      unfold netPtr at hs
      rw [hS.moved.net] at hs
      have HF := Lib.hid hfold
      have HNx := Lib.hid hnx
      have HSt := Lib.hid hst
      have HX := Lib.hid hx
      clear hfold hnx hst hx hpr hS
      obtain ⟨xs, xc⟩ := x
      simp only at c0 c1 hb
      cases hbx : but xs with
      | true =>
        have HBx := Lib.hid hbx
        clear hbx hs
        go_wp2_with fail
        refine (hb _).mono ?_
        rintro e w' ⟨rfl, rfl⟩
        rw [HBx.out]
        clear hb
        go_wp2
        go_roundw
        case rel => exact ⟨k + 1, by go_num, by omega, by rw [HF.out]; simp only [Net.tell1, HBx.out, if_true]; exact HSt.out _⟩
        case measure => simp [intOf]; omega
      | false =>
        have HBx := Lib.hid hbx
        clear hbx
        by_cases hk1 : kind = 1
        · have hkb : (kind == 1) = true := by simpa using hk1
          have HK1 := Lib.hid hk1
          clear hk1
          go_wp2_with fail
          refine (hb _).mono ?_
          rintro e w' ⟨rfl, rfl⟩
          rw [HBx.out]
          clear hb
          go_wp2_with fail
          refine (hs _ _ _).mono ?_
          rintro e w' ⟨rfl, hS2⟩
          have hS3 := Lib.hid (HNx.out _ _ _ hS2)
          clear hs hS2 c0 c1
          go_wp2
          go_roundw
          case rel => exact ⟨k + 1, by go_num, by omega, by rw [HF.out]; simp only [Net.tell1, HBx.out, Bool.false_eq_true, if_false, if_pos HK1.out]; exact hS3.out⟩
          case measure => simp [intOf]; omega
        · have hkb : (kind == 1) = false := by simpa using hk1
          have HK1 := Lib.hid hk1
          clear hk1
          go_wp2_with fail
          refine (hb _).mono ?_
          rintro e w' ⟨rfl, rfl⟩
          rw [HBx.out]
          clear hb
          go_wp2_with fail
          refine (hs _ _ _).mono ?_
          rintro e w' ⟨rfl, hS2⟩
          have hS3 := Lib.hid (HNx.out _ _ _ hS2)
          clear hs hS2 c0 c1
          go_wp2
          go_roundw
          case rel => exact ⟨k + 1, by go_num, by omega, by rw [HF.out]; simp only [Net.tell1, HBx.out, Bool.false_eq_true, if_false, if_neg HK1.out]; exact hS3.out⟩
          case measure => simp [intOf]; omega
    · have hkn : k = n := by omega
      subst hkn
      have HE : Hid (Sents w L N wr (N.tell src kind tx ps but)) := by
        have : ps.take k = ps := List.take_of_length_le (by have := HN.out; omega)
        rw [this] at hS
        exact ⟨L1, hS⟩
      clear hS
      go_wp2
      go_end0
      exact ⟨rfl, HE.out⟩
end Go.Proofs.Ytfmfgckfeojfcaa
