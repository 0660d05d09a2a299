/- Walks of package pact: sites that are up; letters are sent. -/
import Derived.Test.YtfmfgckfeojfcaaStepA
import Derived.Maps.AppendAt
set_option linter.unusedSimpArgs false
set_option linter.unusedVariables false
namespace Go.Proofs.Ytfmfgckfeojfcaa
open Go.RowKit Go.Maps Go.ChangeMaps

theorem isSite_elim {N : Net} {k : Int} (hk : N.isSite k = true) : ∃ (i : Nat) (s : Site), k = (i : Int) ∧ N.sites[i]? = some s ∧ i < N.sites.length := by
  simp [Net.isSite] at hk
  refine ⟨k.toNat, N.sites[k.toNat]'(by omega), by omega, by simp, by omega⟩
theorem isSite_of {N : Net} {i : Nat} {s : Site} (hs : N.sites[i]? = some s) : N.isSite (i : Int) = true := by
  have := siteLt hs; simp [Net.isSite]; exact this

theorem awake_up {w : World} {L : Lay} {N : Net} (h : Rep w L N) (hn : N.sites.length ≤ 8) {i : Nat} {s : Site} (hs : N.sites[i]? = some s) (hd : s.down = false) :
    Calls Try.prog 31 #[netPtr L, .int .i64 i] w fun e w' => e = .returned (.tuple #[sitePtr L i, .int .i64 0]) ∧ w = w' := by
  have hi := siteLt hs
  have hf := find_ok h hn i hi
  have c1 := h.site1 hs
  rw [hd] at c1
  unfold netPtr sitePtr at *
  clear h hs
  go_enter Try.func31, Try.ntmps31
  go_wp2_with fail
  refine hf.mono ?_
  rintro e w' ⟨rfl, rfl⟩
  clear hf
  go_wp2
  all_goals (go_ret2; exact ⟨rfl, rfl⟩)

theorem awake_down {w : World} {L : Lay} {N : Net} (h : Rep w L N) (hn : N.sites.length ≤ 8) {i : Nat} {s : Site} (hs : N.sites[i]? = some s) (hd : s.down = true) :
    Calls Try.prog 31 #[netPtr L, .int .i64 i] w fun e w' => e = .returned (.tuple #[.pointer none, .int .i64 7]) ∧ w = w' := by
  have hi := siteLt hs
  have hf := find_ok h hn i hi
  have c1 := h.site1 hs
  rw [hd] at c1
  unfold netPtr sitePtr at *
  clear h hs
  go_enter Try.func31, Try.ntmps31
  go_wp2_with fail
  refine hf.mono ?_
  rintro e w' ⟨rfl, rfl⟩
  clear hf
  go_wp2
  all_goals (go_ret2; exact ⟨rfl, rfl⟩)

theorem awake_bad {w : World} {L : Lay} {N : Net} (h : Rep w L N) (hn : N.sites.length ≤ 8) (h0 : 0 < N.sites.length) (k : Int) (hk : N.isSite k = false) :
    Calls Try.prog 31 #[netPtr L, .int .i64 k] w fun e w' => e = .returned (.tuple #[.pointer none, .int .i64 3]) ∧ w = w' := by
  have hf := find_bad h hn h0 k hk
  unfold netPtr at *
  clear h hk
  go_enter Try.func31, Try.ntmps31
  go_wp2_with fail
  refine hf.mono ?_
  rintro e w' ⟨rfl, rfl⟩
  clear hf
  go_wp2
  all_goals (go_ret2; exact ⟨rfl, rfl⟩)

theorem stock_any {w : World} {L : Lay} {N : Net} (h : Rep w L N) (hn : N.sites.length ≤ 8) (h0 : 0 < N.sites.length) (k : Int) :
    Calls Try.prog 17 #[netPtr L, .int .i64 k] w fun e w' => e = .returned (.tuple #[.int .i64 (N.stock k).1, .int .i64 (N.stock k).2]) ∧ w = w' := by
  by_cases hk : N.isSite k = true
  · obtain ⟨i, s, rfl, hs, hi⟩ := isSite_elim hk
    have hf := find_ok h hn i hi
    have c0 := h.site0 hs
    have hst : N.stock (i : Int) = (s.stock, 0) := by simp [Net.stock, hk, hs]
    rw [hst]
    unfold netPtr sitePtr at *
    clear h hs hk hst
    go_enter Try.func17, Try.ntmps17
    go_wp2_with fail
    refine hf.mono ?_
    rintro e w' ⟨rfl, rfl⟩
    clear hf
    go_wp2
    go_ret2
    exact ⟨rfl, rfl⟩
  · have hf := find_bad h hn h0 k (by simpa using hk)
    have hst : N.stock k = (0, 3) := by simp [Net.stock, hk]
    rw [hst]
    unfold netPtr at *
    clear h hk hst
    go_enter Try.func17, Try.ntmps17
    go_wp2_with fail
    refine hf.mono ?_
    rintro e w' ⟨rfl, rfl⟩
    clear hf
    go_wp2
    go_ret2
    exact ⟨rfl, rfl⟩

theorem up_any {w : World} {L : Lay} {N : Net} (h : Rep w L N) (hn : N.sites.length ≤ 8) (h0 : 0 < N.sites.length) (k : Int) :
    Calls Try.prog 19 #[netPtr L, .int .i64 k] w fun e w' => e = .returned (.bool (N.up k)) ∧ w = w' := by
  by_cases hk : N.isSite k = true
  · obtain ⟨i, s, rfl, hs, hi⟩ := isSite_elim hk
    cases hd : s.down with
    | false =>
      have hst : N.up (i : Int) = true := by simp [Net.up, Net.awake, hk, hs, hd]
      rw [hst]
      go_enter Try.func19, Try.ntmps19
      unfold netPtr
      go_wp2_with fail
      refine (awake_up h hn hs hd).mono ?_
      rintro e w' ⟨rfl, rfl⟩
      clear h hs hk hst hd
      unfold sitePtr
      go_wp2
      all_goals (go_ret; exact ⟨rfl, rfl⟩)
    | true =>
      have hst : N.up (i : Int) = false := by simp [Net.up, Net.awake, hk, hs, hd]
      rw [hst]
      go_enter Try.func19, Try.ntmps19
      unfold netPtr
      go_wp2_with fail
      refine (awake_down h hn hs hd).mono ?_
      rintro e w' ⟨rfl, rfl⟩
      clear h hs hk hst hd
      go_wp2
      all_goals (go_ret; exact ⟨rfl, rfl⟩)
  · have hst : N.up k = false := by simp [Net.up, Net.awake, hk]
    rw [hst]
    go_enter Try.func19, Try.ntmps19
    unfold netPtr
    go_wp2_with fail
    refine (awake_bad h hn h0 k (by simpa using hk)).mono ?_
    rintro e w' ⟨rfl, rfl⟩
    clear h hk hst
    go_wp2
    all_goals (go_ret; exact ⟨rfl, rfl⟩)

theorem info_mail : (Try.prog.info? 77).map (fun i => (i.zero, i.size, i.bytes)) = some (some (.agg #[.int .i64 0, .int .i64 0, .int .i64 0, .int .i64 0, .int .i64 0]), 5, 40) := by kernel_rfl

theorem new_cells (w : World) (l : List Value) (T : TypeId) : ∀ (j : Nat) (u : Value), l[j]? = some u → (w.alloc (.cells l.toArray T)).cell? ((⟨w.heap.size, 0, none⟩ : Addr).add j) = some u := by
  intro j u hu
  have : (⟨w.heap.size, 0, none⟩ : Addr).add j = ⟨w.heap.size, j, none⟩ := by unfold Addr.add; split <;> simp_all
  rw [this, World.cell?_alloc_new]
  simpa using hu
theorem ints_one {l : List Int} : ∀ u ∈ l.map (Value.int .i64), u.oneCell' = true := by
  intro u hu
  obtain ⟨n, _, rfl⟩ := List.mem_map.1 hu
  rfl

/-- What is behind 'n.mail = append(n.mail, letter)'. -/
theorem Rep.pushed {w w1 : World} {L : Lay} {N : Net} (h : Rep w L N) {o : Obj} (m : Mail) {v : Value} (hg : (w.alloc o).grownBy w1 (mailV L N).ownBlock) (hv : w1.ownsRow 0 77 5 v (N.mail.length + 1) (N.mail.flatMap Mail.cells ++ m.cells))
    (hloc : v.ownBlock = (mailV L N).ownBlock ∨ ∀ k, v.ownBlock = some k → w.heap.size ≤ k) :
    Sents w L N (w1.setCell ⟨L.at_ .net, 1, none⟩ v) { N with mail := N.mail ++ [m] } := by
  have hxs : N.mail.flatMap Mail.cells ++ m.cells = (N.mail ++ [m]).flatMap Mail.cells := by simp
  have hlen : N.mail.length + 1 = (N.mail ++ [m]).length := by simp
  rw [hxs, hlen] at hv
  rcases isRow_of_owns hv with ⟨_, e, _⟩ | ⟨g, cap, o1, rfl, _, hg1, hr⟩
  · simp at e
  · have hown : ∀ k, (mailV L N).ownBlock = some k → 0 < L.mcap ∧ k = L.at_ .mail := fun k hk => by
      unfold mailV at hk
      split at hk
      · cases hk
      · simp [Value.ownBlock] at hk; exact ⟨by omega, hk.symm⟩
    have ho : Only (fun b => 0 < L.mcap ∧ b = L.at_ .mail) w w1 :=
      ((Only.refl _ w).alloc o).trans (Only.of_grown (S := fun b => 0 < L.mcap ∧ b = L.at_ .mail) hg fun k hk => .inl (hown k hk)) fun _ _ h => h
    have hc : 0 < cap := by have := hr.le.1; simp at this; omega
    have hgo : (0 < L.mcap ∧ g = L.at_ .mail) ∨ w.heap.size ≤ g := by
      rcases hloc with hloc | hloc
      · exact .inl (hown g (hloc ▸ rfl))
      · exact .inr (hloc g rfl)
    have hr2 := h.setMail ho hg1 hr hc hgo
    refine ⟨_, ⟨hr2, ?_, Lay.put_other L g (t := .mail) (x := .net) (by simp), Lay.put_other L g (t := .mail) (x := .sites) (by simp), fun b hb => ?_, fun b hb => ?_⟩, fun t e => Lay.put_other L g e, rfl, rfl, rfl⟩
    · refine (ho.mono fun b _ hb => ?_).setCell _ _ (.inl ⟨.net, trivial, rfl⟩)
      exact ⟨.mail, hb.1, hb.2.symm⟩
    · obtain ⟨t, ht, rfl⟩ := hb
      by_cases e : t = .mail
      · subst e
        have e1 : ({ L.put .mail g with mcap := cap } : Lay).at_ .mail = g := Lay.put_same L .mail g
        rw [e1]
        rcases hgo with ⟨h1, h2⟩ | h1
        · exact .inl ⟨.mail, h1, h2.symm⟩
        · exact .inr h1
      · have e1 : ({ L.put .mail g with mcap := cap } : Lay).at_ t = L.at_ t := Lay.put_other L g e
        rw [e1]
        exact .inl ⟨t, by cases t <;> first | exact absurd rfl e | exact ht, rfl⟩
    · obtain ⟨g', i, tx, d, hd, rfl⟩ := hb
      exact .inl ⟨g', i, tx, d, hd, rfl⟩

set_option maxRecDepth 20000 in
theorem send_any {w : World} {L : Lay} {N : Net} (h : Rep w L N) (hm : N.mail.length ≤ 1024) (a b k t c : Int) :
    Calls Try.prog 48 #[netPtr L, .int .i64 a, .int .i64 b, .int .i64 k, .int .i64 t, .int .i64 c] w fun e w' => e = .returned (.tuple #[]) ∧ Sents w L N w' (N.send a b k t c) := by
  unfold netPtr
  have hown := h.mailOwns
  have c1 := h.net1
  have f1 := h.netFree 1
  have hlt := h.netLt
  by_cases hlen : N.mail.length < 1024
  · have hsend : N.send a b k t c = { N with mail := N.mail ++ [⟨a, b, k, t, c⟩] } := by simp [Net.send, hlen]
    rw [hsend]
    have hpush := fun w1 v hg hv hloc => h.pushed (w1 := w1) (o := .cells #[.int .i64 a, .int .i64 b, .int .i64 k, .int .i64 t, .int .i64 c] 77) ⟨a, b, k, t, c⟩ (v := v) hg hv hloc
    obtain ⟨ml, hml⟩ : ∃ ml, mailV L N = ml := ⟨_, rfl⟩
    have hmlen : ∃ a n c, ml = .slice a n c ∧ n = N.mail.length := by
      rw [← hml]; unfold mailV; split
      · rename_i e; exact ⟨_, _, _, rfl, by have := h.mlen; omega⟩
      · exact ⟨_, _, _, rfl, rfl⟩
    obtain ⟨sa, sn, sc, rfl, hsn⟩ := hmlen
    rw [hml] at c1 hown hpush
    rw [← hsn] at hown hpush hlen
    obtain ⟨i0, hi, hz0, hz1, hz2⟩ := info_parts info_mail
    have hback : ∀ w1, (w.alloc (.cells #[.int .i64 a, .int .i64 b, .int .i64 k, .int .i64 t, .int .i64 c] 77)).grownBy w1 (Value.slice sa sn sc).ownBlock → w1.cell? ⟨L.at_ .net, 1, none⟩ = some (.slice sa sn sc) ∧ w1.frozen? ⟨L.at_ .net, 1, none⟩ = false := fun w1 hg => by
      have hne : some (L.at_ .net) ≠ (Value.slice sa sn sc).ownBlock := fun hk => by
        rw [← hml] at hk
        unfold mailV at hk
        split at hk
        · cases hk
        · rename_i hc; simp [Value.ownBlock] at hk
          have := h.inj .mail .net (by simp [Live]; omega) trivial hk.symm
          cases this
      have hb := (hg.block (L.at_ .net) (by simp; omega) hne).trans (alloc_other w _ hlt)
      exact ⟨(World.cell?_of_block (a := ⟨L.at_ .net, 1, none⟩) hb).trans c1, (World.frozen?_of_block (a := ⟨L.at_ .net, 1, none⟩) hb).trans f1⟩
    have HP := Lib.hid hpush
    have HB := Lib.hid hback
    have HM := Lib.hid hsn
    clear hpush hback hml hsn h
    go_enter Try.func48, Try.ntmps48
    go_wp2_with (first
      | (at_builtin; refine wpList_append_own_at _ rfl _ _ 48 rfl 0 77 i0 _ 5 40 Try.underlying48 hi hz0 hz1 hz2 rfl (by decide) _ _ _ rfl (hown.alloc _) ⟨w.heap.size, 0, none⟩ 1 1 [.int .i64 a, .int .i64 b, .int .i64 k, .int .i64 t, .int .i64 c] rfl rfl ?c1 ?c2 ?c3 ?c4 ?c5 ?_)
      | go_in)
    case c1 => exact new_cells w _ _
    case c2 => exact ints_one (l := [a, b, k, t, c])
    case c3 => unfold maxLen; omega
    case c4 => omega
    case c5 => omega
    intro v' w1 hown1 hg1 _ hloc
    obtain ⟨hc1, hf1⟩ := HB.out w1 hg1
    have hfin := HP.out w1 v' hg1 hown1 (hloc.imp id fun e k hk => by rw [e] at hk; simp at hk; omega)
    obtain ⟨g, cap, rfl⟩ : ∃ g cap, v' = .slice (some ⟨g, 0, none⟩) (sn + 1) cap := by
      rcases hown1.2 with ⟨_, h0⟩ | ⟨g, cap, cur, e, _⟩
      · omega
      · exact ⟨g, cap, e⟩
    have HF := Lib.hid hfin
    clear hfin hown1 hg1 hloc hown hi hz0 hz1 hz2
    go_wp2
    go_end0
    exact ⟨rfl, HF.out⟩
  · have hsend : N.send a b k t c = N := by simp [Net.send, hlen]
    rw [hsend]
    have hge : ∃ a n c, mailV L N = .slice a n c ∧ ¬ n < 1024 := by
      unfold mailV; split
      · rename_i e; have := h.mlen; omega
      · exact ⟨_, _, _, rfl, hlen⟩
    obtain ⟨sa, sn, sc, hml, hsn⟩ := hge
    rw [hml] at c1
    have HR := Lib.hid (Sents.refl h)
    clear h hown hlen hsend hml hm
    go_enter Try.func48, Try.ntmps48
    go_wp2
    go_end0
    exact ⟨rfl, HR.out⟩
end Go.Proofs.Ytfmfgckfeojfcaa
