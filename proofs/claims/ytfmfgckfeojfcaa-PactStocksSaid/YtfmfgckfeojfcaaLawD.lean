/- The walk of the calm: it ends, or a letter may have been lost. -/
import Derived.Test.YtfmfgckfeojfcaaLawC
set_option linter.unusedSimpArgs false
set_option linter.unusedVariables false
namespace Go.Proofs.Ytfmfgckfeojfcaa
open Go.RowKit Go.Maps Go.ChangeMaps

theorem letters_len {F : Nat → Prop} {nb : Nat} {w : World} {N : Net} (h : OwnF F w nb N) : Calls Try.prog 20 #[ptr nb] w fun e w' => ∃ a c, e = .returned (.slice a N.mail.length c) ∧ OwnF F w' nb N ∧ Keep F w w' := by
  refine (ownF_letters h).mono ?_
  rintro e w' ⟨v', rfl, hown, hB⟩
  rcases isRow_of_owns hown with ⟨rfl, e, _⟩ | ⟨g, cap, o, rfl, _⟩
  · exact ⟨none, 0, by rw [e], h.below hB, Keep.of_below hB⟩
  · exact ⟨_, _, rfl, h.below hB, Keep.of_below hB⟩

set_option maxRecDepth 200000 in
set_option maxHeartbeats 8000000 in
theorem calm_any {F : Nat → Prop} {nb : Nat} {w w0 : World} {N : Net} {S0 : List Int} {all : List (List Move)} (h : OwnF F w nb N) (hI : Inv Never S0 all N) (hall : all.length ≤ 60) (hw0 : Below w0.heap.size w0 w) (hw0b : ∀ b, b < w0.heap.size → F b)
    {oa : Option Addr} {on oc : Nat} {ord : List Int} (hord : IntsIn w0 oa on oc ord) :
    Calls Try.prog 11 #[ptr nb, .slice oa on oc] w fun e w' => ∃ b1 b2 N', e = .returned (.tuple #[.bool b1, .bool b2]) ∧ Keep F w w' ∧ OwnF F w' nb N' ∧ (b2 = true ∨ (b1 = true ∧ b2 = false ∧ N'.mail.length = 0 ∧ Inv Always S0 all N')) := by
  obtain ⟨n, hn⟩ : ∃ n, N.sites.length = n := ⟨_, rfl⟩
  have hn8 : n ≤ 8 := by rw [← hn]; exact hI.ok.eight
  have hon := hord.len
  have hoc := hord.cap
  have hom := hord.max
  have HC : Hid (∀ j x, ord[j]? = some x → i64 x ∧ ∃ ad, oa = some ad ∧ ∀ wr, Keep F w wr → wr.cell? (ad.add j) = some (.int .i64 x)) := fun j x hj => by
    obtain ⟨ad, e1, e2⟩ := hord.cell j x hj
    refine ⟨hord.ints x (List.mem_of_getElem? hj), ad, e1, fun wr hb => ?_⟩
    have hlt := lt_of_cell e2
    have h1 := (hb.block (Nat.lt_of_lt_of_le hlt hw0.size) (hw0b _ hlt)).trans (hw0.block _ hlt)
    exact (World.cell?_of_block h1).trans e2
  have HS : Hid (∃ N1 : Net, OwnF F w nb N1 ∧ Inv Never S0 all N1 ∧ Ups 0 N1 ∧ N1.sites.length = n ∧ Keep F w w) := ⟨N, h, hI, fun j s hj => by omega, hn, Keep.refl _ _⟩
  have HA := Lib.hid hall
  have HON := Lib.hid hon
  clear h hI hn hall hw0 hw0b hord hon
  unfold ptr at *
  go_enter Try.func11, Try.ntmps11
  go_wp2
  go_loopw [6] (fun i wr => ∃ k : Nat, i = .int .i64 k ∧ k ≤ n ∧ ∃ N1 : Net, OwnF F wr nb N1 ∧ Inv Never S0 all N1 ∧ Ups k N1 ∧ N1.sites.length = n ∧ Keep F w wr) (fun i _ => n - (intOf i).toNat)
  case atStart => exact ⟨0, rfl, Nat.zero_le _, HS.out⟩
  case round =>
    obtain ⟨k, rfl, hk, N1, hO, hI, hU, hN, hB⟩ := hrel
    have hSi := ownF_sites hO
    rw [hN] at hSi
    have HSi := Lib.hid hSi
    by_cases hlt : k < n
    · obtain ⟨s, hs⟩ : ∃ s, N1.sites[k]? = some s := ⟨N1.sites[k]'(by rw [hN]; exact hlt), by simp⟩
      have hUp := ownF_up hO k
      rcases calm_start hI hU hs with ⟨e1, e2⟩ | ⟨e1, e2, e3, e4, e5⟩
      · rw [e1] at hUp
        have HUp := Lib.hid hUp
        have HR : Hid (∃ N1 : Net, OwnF F wr nb N1 ∧ Inv Never S0 all N1 ∧ Ups (k + 1) N1 ∧ N1.sites.length = n ∧ Keep F w wr) := ⟨N1, hO, hI, e2, hN, hB⟩
        clear hSi hUp hO hI hU hN hB hs e1 e2
        go_wp2_with (first | (go_at_call 8; refine HSi.out.mono ?_; rintro e w' ⟨rfl, rfl⟩) | (go_at_call 19; refine HUp.out.mono ?_; rintro e w' ⟨rfl, rfl⟩) | go_in)
        go_roundw
        case rel => exact ⟨k + 1, by go_num, by omega, HR.out⟩
        case measure => simp [intOf]; omega
      · rw [e1] at hUp
        have hSt := ownF_start hO k
        rw [e2] at hSt
        have hSt' : Calls Try.prog 28 #[ptr nb, .int .i64 k] wr fun e w' => e = .returned (.int .i64 0) ∧ ∃ N1 : Net, OwnF F w' nb N1 ∧ Inv Never S0 all N1 ∧ Ups (k + 1) N1 ∧ N1.sites.length = n ∧ Keep F w w' := by
          refine hSt.mono ?_
          rintro e w' ⟨rfl, g1, g2⟩
          exact ⟨rfl, _, g1, e3, e4, e5.trans hN, hB.trans g2⟩
        unfold ptr at *
        have HUp := Lib.hid hUp
        have HSt := Lib.hid hSt'
        clear hSi hUp hSt hSt' hO hI hU hN hB hs e1 e2 e3 e4 e5
        go_wp2_with (first | (go_at_call 8; refine HSi.out.mono ?_; rintro e w' ⟨rfl, rfl⟩) | (go_at_call 19; refine HUp.out.mono ?_; rintro e w' ⟨rfl, rfl⟩) | (go_at_call 28; refine HSt.out.mono ?_; rintro e w' ⟨rfl, hR⟩; have HR := Lib.hid hR; clear hR) | go_in)
        go_roundw
        case rel => exact ⟨k + 1, by go_num, by omega, HR.out⟩
        case measure => simp [intOf]; omega
    · have hkn : k = n := by omega
      subst hkn
      have HR : Hid (∃ N1 : Net, OwnF F wr nb N1 ∧ Inv (fun x => x < ((0 : Nat) : Int)) S0 all N1 ∧ (∀ s ∈ N1.sites, s.down = false) ∧ N1.sites.length = k ∧ Keep F w wr) := ⟨N1, hO, hI.calm0, ups_all hU (by omega), hN, hB⟩
      clear hSi hO hI hU hN hB
      go_wp2_with (first | (go_at_call 8; refine HSi.out.mono ?_; rintro e w' ⟨rfl, rfl⟩) | go_in)
      clear HSi HS
      go_loopw [7] (fun i wr => ∃ q : Nat, i = .int .i64 q ∧ q ≤ k ∧ ∃ N1 : Net, OwnF F wr nb N1 ∧ Inv (fun x => x < (q : Int)) S0 all N1 ∧ (∀ s ∈ N1.sites, s.down = false) ∧ N1.sites.length = k ∧ Keep F w wr) (fun i _ => k - (intOf i).toNat)
      case atStart => exact ⟨0, rfl, Nat.zero_le _, HR.out⟩
      case round =>
        clear HR
        obtain ⟨q, rfl, hq, N1, hO, hI, hU, hN, hB⟩ := hrel
        have hSi := ownF_sites hO
        rw [hN] at hSi
        unfold ptr at hSi
        have HSi := Lib.hid hSi
        by_cases hlt : q < k
        · obtain ⟨s, hs⟩ : ∃ s, N1.sites[q]? = some s := ⟨N1.sites[q]'(by rw [hN]; exact hlt), by simp⟩
          have hT := ownF_tick hO q
          obtain ⟨e1, e2, e3, e4⟩ := calm_tick hI hU hs
          rw [e1] at hT
          have hT' : Calls Try.prog 26 #[ptr nb, .int .i64 q] wr fun e w' => e = .returned (.int .i64 0) ∧ Calls Try.prog 20 #[ptr nb] w' fun e w2 => ∃ a m c, e = .returned (.slice a m c) ∧ m ≤ 1024 ∧
              (1024 ≤ m → OwnF F w2 nb (N1.tick q).1 ∧ Keep F w w2) ∧ (m < 1024 → ∃ N1 : Net, OwnF F w2 nb N1 ∧ Inv (fun x => x < ((q + 1 : Nat) : Int)) S0 all N1 ∧ (∀ s ∈ N1.sites, s.down = false) ∧ N1.sites.length = k ∧ Keep F w w2) := by
            refine hT.mono ?_
            rintro e w' ⟨rfl, g1, g2⟩
            refine ⟨rfl, (letters_len g1).mono ?_⟩
            rintro e w2 ⟨a, c, rfl, g3, g4⟩
            exact ⟨a, _, c, rfl, e3.ok.mail, fun _ => ⟨g3, hB.trans (g2.trans g4)⟩, fun hlt => ⟨_, g3, e4 hlt, by rw [e2]; exact hU, by rw [e2]; exact hN, hB.trans (g2.trans g4)⟩⟩
          unfold ptr at *
          have HT := Lib.hid hT'
          clear hSi hT hT' hO hI hU hN hB hs e1 e2 e3 e4
          go_wp2_with (first | (go_at_call 8; refine HSi.out.mono ?_; rintro e w' ⟨rfl, rfl⟩) | (go_at_call 26; refine HT.out.mono ?_; rintro e w' ⟨rfl, hL⟩; have HL := Lib.hid hL; clear hL) | (go_at_call 20; refine HL.out.mono ?_; rintro e w2 ⟨a, m, c, rfl, hm, hm1, hm2⟩; have HM1 := Lib.hid hm1; have HM2 := Lib.hid hm2; clear hm1 hm2) | go_in)
          · have h1 := HM1.out (by omega)
            go_ret2
            exact ⟨false, true, _, rfl, h1.2, h1.1, .inl rfl⟩
          · have h1 := HM2.out (by omega)
            go_roundw
            case rel => exact ⟨q + 1, by go_num, by omega, h1⟩
            case measure => simp [intOf]; omega
        · have hqk : q = k := by omega
          subst hqk
          have hA : Inv Always S0 all N1 := by rw [← hN] at hI; exact hI.calmAll
          have HR : Hid (∃ N1 : Net, OwnF F wr nb N1 ∧ Inv Never S0 all N1 ∧ (N1.mail.length < 1024 → Inv Always S0 all N1) ∧ (∀ s ∈ N1.sites, s.down = false) ∧ (N1.mail.length < 1024 → 0 + pot N1 ≤ 11772) ∧ Keep F w wr) :=
            ⟨N1, hO, hA.weaken, fun _ => hA, hU, fun hlt => by have h1 := HA.out; have h2 := hA.cnt; have := pot_le hA.ok hlt (c := 60) (by omega); omega, hB⟩
          clear hSi hO hI hU hN hB hA
          go_wp2_with (first | (go_at_call 8; refine HSi.out.mono ?_; rintro e w' ⟨rfl, rfl⟩) | go_in)
          clear HSi
          go_loopw [8] (fun i wr => ∃ j : Nat, i = .int .i64 j ∧ j ≤ 11772 ∧ ∃ N1 : Net, OwnF F wr nb N1 ∧ Inv Never S0 all N1 ∧ (N1.mail.length < 1024 → Inv Always S0 all N1) ∧ (∀ s ∈ N1.sites, s.down = false) ∧ (N1.mail.length < 1024 → j + pot N1 ≤ 11772) ∧ Keep F w wr) (fun i _ => 20000 - (intOf i).toNat)
          case atStart => exact ⟨0, rfl, by omega, HR.out⟩
          case round =>
            clear HR
            obtain ⟨j, rfl, hj, N1, hO, hI, hA, hU, hP, hB⟩ := hrel
            have hm := hI.ok.mail
            have hL : Calls Try.prog 20 #[ptr nb] wr fun e w2 => ∃ a c, e = .returned (.slice a N1.mail.length c) ∧ OwnF F w2 nb N1 ∧ Keep F w w2 := by
              refine (letters_len hO).mono ?_
              rintro e w2 ⟨a, c, rfl, g3, g4⟩
              exact ⟨a, c, rfl, g3, hB.trans g4⟩
            have hD : ∀ (d : Nat) (w2 : World), d < N1.mail.length → N1.mail.length < 1024 → OwnF F w2 nb N1 → Keep F w w2 → Calls Try.prog 23 #[ptr nb, .int .i64 d] w2 fun e w' => e = .returned (.int .i64 0) ∧ j + 1 ≤ 11772 ∧
                ∃ N1 : Net, OwnF F w' nb N1 ∧ Inv Never S0 all N1 ∧ (N1.mail.length < 1024 → Inv Always S0 all N1) ∧ (∀ s ∈ N1.sites, s.down = false) ∧ (N1.mail.length < 1024 → j + 1 + pot N1 ≤ 11772) ∧ Keep F w w' := fun d w2 hd hlt g1 g2 => by
              obtain ⟨e1, e2, e3, e4, e5⟩ := calm_deliver hI hA hU hd
              have hP := hP hlt
              refine (ownF_deliver g1 d).mono ?_
              rintro e w' ⟨rfl, g3, g4⟩
              exact ⟨by rw [e1], by omega, _, g3, e2, e5 hlt, e3, fun _ => by omega, g2.trans g4⟩
            have hE : N1.mail.length = 0 → Inv Always S0 all N1 := fun e => hA (by omega)
            unfold ptr at hL hD
            generalize hml : N1.mail.length = m at *
            have HL := Lib.hid hL
            have HD := Lib.hid hD
            have HE := Lib.hid hE
            have HM := Lib.hid hml
            clear hL hD hE hml hO hI hA hU hP hB
            by_cases hm0 : m = 0
            · subst hm0
              go_wp2_with (first | (go_at_call 20; refine HL.out.mono ?_; rintro e w2 ⟨a, c, rfl, g1, g2⟩; have G1 := Lib.hid g1; have G2 := Lib.hid g2; clear g1 g2) | go_in)
              go_ret2
              exact ⟨true, false, N1, rfl, G2.out, G1.out, .inr ⟨rfl, rfl, HM.out, HE.out (by first | rfl | trivial)⟩⟩
            by_cases hm1 : 1024 ≤ m
            · go_wp2_with (first | (go_at_call 20; refine HL.out.mono ?_; rintro e w2 ⟨a, c, rfl, g1, g2⟩; have G1 := Lib.hid g1; have G2 := Lib.hid g2; clear g1 g2) | go_in)
              go_ret2
              exact ⟨false, true, N1, rfl, G2.out, G1.out, .inl rfl⟩
            by_cases hjo : j < on
            · obtain ⟨x, hx⟩ : ∃ x, ord[j]? = some x := ⟨ord[j]'(by rw [HON.out]; exact hjo), by simp⟩
              obtain ⟨hxi, ad, rfl, hc⟩ := HC.out j x hx
              obtain ⟨d, hd⟩ : ∃ d : Nat, x % 18446744073709551616 % m = d := ⟨(x % 18446744073709551616 % m).toNat, by have := Int.emod_nonneg (x % 18446744073709551616) (b := m) (by omega); omega⟩
              have hdm : d < m := by have := Int.emod_lt_of_pos (x % 18446744073709551616) (b := m) (by omega); omega
              have HU : Hid (wrap64 ((IntKind.u64.wrap x).tmod m) = d) := by
                show wrap64 ((IntKind.u64.wrap x).tmod m) = d
                rw [u64_rem (by omega) (by omega)]; exact hd
              have HX : Hid (∀ w2, Keep F w w2 → w2.cell? (ad.add j) = some (.int .i64 x)) := hc
              clear hc hx hxi hd
              go_wp2_with (first | (go_at_call 20; refine HL.out.mono ?_; rintro e w2 ⟨a, c, rfl, g1, g2⟩; have c0 := HX.out w2 g2; have hDD := HD.out d w2 hdm (by omega) g1 g2; have HDD := Lib.hid hDD; clear g1 g2 hDD) | (go_at_call 23; rw [HU.out]; refine HDD.out.mono ?_; rintro e w' ⟨rfl, hj1, hR⟩; have HR := Lib.hid hR; clear hR) | go_in)
              go_roundw
              case rel => exact ⟨j + 1, by go_num, hj1, HR.out⟩
              case measure => simp [intOf]; omega
            · go_wp2_with (first | (go_at_call 20; refine HL.out.mono ?_; rintro e w2 ⟨a, c, rfl, g1, g2⟩; have hDD := HD.out 0 w2 (by omega) (by omega) g1 g2; have HDD := Lib.hid hDD; clear g1 g2 hDD) | (go_at_call 23; refine HDD.out.mono ?_; rintro e w' ⟨rfl, hj1, hR⟩; have HR := Lib.hid hR; clear hR) | go_in)
              go_roundw
              case rel => exact ⟨j + 1, by go_num, hj1, HR.out⟩
              case measure => simp [intOf]; omega
end Go.Proofs.Ytfmfgckfeojfcaa
