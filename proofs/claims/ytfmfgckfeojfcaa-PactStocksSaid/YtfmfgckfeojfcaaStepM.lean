/- Walks of package pact: Deliver, Repeat, Lose. -/
import Derived.Test.YtfmfgckfeojfcaaStepL
set_option linter.unusedSimpArgs false
set_option linter.unusedVariables false
namespace Go.Proofs.Ytfmfgckfeojfcaa
open Go.RowKit Go.Maps Go.ChangeMaps

theorem Net.Ok.erase {N : Net} (h : N.Ok) (k : Nat) : Net.Ok { N with mail := N.mail.eraseIdx k } :=
  ⟨h.one, h.eight, Nat.le_trans (List.length_eraseIdx_le _ _) h.mail, h.count, h.site, fun m hm => h.mails m (List.mem_of_mem_eraseIdx hm)⟩
theorem isLetter_elim {N : Net} {k : Int} (h : N.isLetter k = true) : ∃ (i : Nat) (m : Mail), k = (i : Int) ∧ N.mail[i]? = some m ∧ i < N.mail.length := by
  unfold Net.isLetter at h
  simp only [Bool.and_eq_true, decide_eq_true_eq] at h
  refine ⟨k.toNat, N.mail[k.toNat]'(by omega), by omega, by simp, by omega⟩
theorem mails_one {l : List Mail} : ∀ u ∈ l.flatMap Mail.cells, u.oneCell' = true := by
  intro u hu
  obtain ⟨m, _, hm⟩ := List.mem_flatMap.1 hu
  simp [Mail.cells] at hm
  rcases hm with rfl | rfl | rfl | rfl | rfl <;> rfl
theorem Rep.letterAt {w : World} {L : Lay} {N : Net} (h : Rep w L N) {i : Nat} {m : Mail} (hm : N.mail[i]? = some m) (j : Nat) {v : Value} (hv : m.cells[j]? = some v) (hj : j < 5) : w.cell? ⟨L.at_ .mail, i * 5 + j, none⟩ = some v := by
  have hlt := (List.getElem?_eq_some_iff.1 hm).1
  have hc : 0 < L.mcap := by have := h.mlen; omega
  obtain ⟨o, ho, hr⟩ := h.mailAt hc
  refine hr.cell ho ?_
  rw [get_flat (f := Mail.cells) (k := 5) (fun x _ => x.cells5) hj, hm]
  exact hv
theorem Rep.letterCells {w : World} {L : Lay} {N : Net} (h : Rep w L N) {i : Nat} {m : Mail} (hm : N.mail[i]? = some m) :
    w.cell? ⟨L.at_ .mail, i * 5, none⟩ = some (.int .i64 m.src) ∧ w.cell? ⟨L.at_ .mail, i * 5 + 1, none⟩ = some (.int .i64 m.dst) ∧ w.cell? ⟨L.at_ .mail, i * 5 + 2, none⟩ = some (.int .i64 m.kind) ∧
      w.cell? ⟨L.at_ .mail, i * 5 + 3, none⟩ = some (.int .i64 m.tx) ∧ w.cell? ⟨L.at_ .mail, i * 5 + 4, none⟩ = some (.int .i64 m.n) :=
  ⟨h.letterAt hm 0 rfl (by omega), h.letterAt hm 1 rfl (by omega), h.letterAt hm 2 rfl (by omega), h.letterAt hm 3 rfl (by omega), h.letterAt hm 4 rfl (by omega)⟩
theorem Rep.mailVal {w : World} {L : Lay} {N : Net} (h : Rep w L N) (hn : 0 < N.mail.length) : mailV L N = .slice (some ⟨L.at_ .mail, 0, none⟩) N.mail.length L.mcap := by
  unfold mailV; rw [if_neg (by have := h.mlen; omega)]

/-- The letters without the i-th, in their own row. -/
theorem Rep.cutMail {w w1 : World} {L : Lay} {N : Net} (h : Rep w L N) {i : Nat} (hi : i < N.mail.length) {o' : Obj} (hg : w1.heap[L.at_ .mail]? = some o') (hr : IsRow 77 5 (N.mail.length - 1) L.mcap ((N.mail.flatMap Mail.cells).take (i * 5) ++ (N.mail.flatMap Mail.cells).drop ((i + 1) * 5)) o')
    (ho : Only (fun b => b = L.at_ .mail) w w1) :
    Sents w L N (w1.setCell ⟨L.at_ .net, 1, none⟩ (.slice (some ⟨L.at_ .mail, 0, none⟩) (N.mail.length - 1) L.mcap)) { N with mail := N.mail.eraseIdx i } := by
  have hc : 0 < L.mcap := by have := h.mlen; omega
  have hl : (N.mail.eraseIdx i).length = N.mail.length - 1 := List.length_eraseIdx_of_lt hi
  rw [← hl]
  refine h.mailRow (ho.mono fun b _ e => ⟨hc, e⟩) hg ?_ hc (.inl ⟨hc, rfl⟩)
  rw [hl, List.eraseIdx_eq_take_drop_succ, List.flatMap_append, ← take_flat (fun x _ => x.cells5), ← drop_flat (fun x _ => x.cells5)]
  exact hr

theorem Rep.netStill {w w1 : World} {L : Lay} {N : Net} (h : Rep w L N) (hc : 0 < L.mcap) (ho : Only (fun b => b = L.at_ .mail) w w1) (j : Nat) {v : Value} (hv : w.cell? ⟨L.at_ .net, j, none⟩ = some v) :
    w1.cell? ⟨L.at_ .net, j, none⟩ = some v ∧ w1.frozen? ⟨L.at_ .net, j, none⟩ = false ∧ L.at_ .net < w1.heap.size := by
  have e : w1.heap[L.at_ .net]? = w.heap[L.at_ .net]? := ho.block _ h.netLt fun e => by have := h.inj .net .mail trivial hc e; cases this
  refine ⟨?_, ?_, Nat.lt_of_lt_of_le h.netLt ho.size⟩
  · rw [← hv]; simp [World.cell?, e]
  · have := h.netFree j
    rw [← this]; simp [World.frozen?, e]

set_option maxRecDepth 20000 in
set_option maxHeartbeats 1000000 in
theorem lose_any {w : World} {L : Lay} {N : Net} (h : Rep w L N) (hok : N.Ok) (k : Int) :
    Calls Try.prog 25 #[netPtr L, .int .i64 k] w fun e w' => e = .returned (.int .i64 (N.lose k).2) ∧ Moves w L N w' (N.lose k).1 := by
  have hlet := letter_any h hok k
  cases hk : N.isLetter k with
  | false =>
    have e : N.lose k = (N, 3) := by simp [Net.lose, hk]
    have hM := Moves.refl h
    rw [e]
    rw [hk] at hlet
    have HM := Lib.hid hM
    have HL := Lib.hid hlet
    clear hM hk h hok e hlet
    unfold netPtr at *
    go_enter Try.func25, Try.ntmps25
    go_wp2_with fail
    refine HL.out.mono ?_
    rintro e w' ⟨rfl, rfl⟩
    go_wp2
    go_ret
    exact ⟨rfl, HM.out⟩
  | true =>
    obtain ⟨i, m, rfl, hm, hi⟩ := isLetter_elim hk
    have e : N.lose i = ({ N with mail := N.mail.eraseIdx i }, 0) := by simp [Net.lose, hk]
    rw [e]
    rw [hk] at hlet
    have hc : 0 < L.mcap := by have := h.mlen; omega
    obtain ⟨o, ho, hr⟩ := h.mailAt hc
    have hdel := delete_any (k := i) ho hr mails_one hi (by have := hr.le.2; unfold maxLen at this; omega)
    have c1 := h.net1
    rw [h.mailVal (by omega)] at c1
    have hfin : ∀ w1, (∃ o', w1.heap[L.at_ .mail]? = some o' ∧ IsRow 77 5 (N.mail.length - 1) L.mcap ((N.mail.flatMap Mail.cells).take (i * 5) ++ (N.mail.flatMap Mail.cells).drop ((i + 1) * 5)) o' ∧ Only (fun b => b = L.at_ .mail) w w1) →
        (w1.cell? ⟨L.at_ .net, 1, none⟩ = some (.slice (some ⟨L.at_ .mail, 0, none⟩) N.mail.length L.mcap) ∧ w1.frozen? ⟨L.at_ .net, 1, none⟩ = false ∧ L.at_ .net < w1.heap.size) ∧
        Moves w L N (w1.setCell ⟨L.at_ .net, 1, none⟩ (.slice (some ⟨L.at_ .mail, 0, none⟩) (N.mail.length - 1) L.mcap)) { N with mail := N.mail.eraseIdx i } :=
      fun w1 ⟨o', h1, h2, h3⟩ => ⟨h.netStill hc h3 1 c1, (h.cutMail hi h1 h2 h3).moves⟩
    have hmm := hok.mail
    have f1 := h.netFree 1
    have hnl := h.netLt
    have HL := Lib.hid hlet
    have HD := Lib.hid hdel
    have HF := Lib.hid hfin
    clear hlet hdel hfin ho hr hok hm hk e h
    generalize hn : N.mail.length = n at *
    clear hn
    unfold netPtr at *
    go_enter Try.func25, Try.ntmps25
    go_wp2_with fail
    refine HL.out.mono ?_
    rintro e w' ⟨rfl, rfl⟩
    go_wp2_with fail
    refine HD.out.mono ?_
    rintro e w1 ⟨rfl, hx⟩
    obtain ⟨⟨d1, d2, d3⟩, hM⟩ := HF.out _ hx
    have HM := Lib.hid hM
    clear hx hM
    go_wp2
    go_ret
    exact ⟨rfl, HM.out⟩

set_option maxRecDepth 20000 in
set_option maxHeartbeats 1000000 in
theorem repeat_any {w : World} {L : Lay} {N : Net} (h : Rep w L N) (hok : N.Ok) (k : Int) :
    Calls Try.prog 24 #[netPtr L, .int .i64 k] w fun e w' => e = .returned (.int .i64 (N.repeat_ k).2) ∧ Moves w L N w' (N.repeat_ k).1 := by
  have hlet := letter_any h hok k
  cases hk : N.isLetter k with
  | false =>
    have e : N.repeat_ k = (N, 3) := by simp [Net.repeat_, hk]
    have hM := Moves.refl h
    rw [e]
    rw [hk] at hlet
    have HM := Lib.hid hM
    have HL := Lib.hid hlet
    clear hM hk h hok e hlet
    unfold netPtr at *
    go_enter Try.func24, Try.ntmps24
    go_wp2_with fail
    refine HL.out.mono ?_
    rintro e w' ⟨rfl, rfl⟩
    go_wp2
    go_ret
    exact ⟨rfl, HM.out⟩
  | true =>
    obtain ⟨i, m, rfl, hm, hi⟩ := isLetter_elim hk
    have e : N.repeat_ i = (N.handle m, 0) := by simp [Net.repeat_, hk, hm]
    rw [e]
    rw [hk] at hlet
    have hc : 0 < L.mcap := by have := h.mlen; omega
    have c1 := h.net1
    rw [h.mailVal (by omega)] at c1
    have hmm := hok.mail
    have hh := handle_any h hok (hok.mails m (List.mem_of_getElem? hm))
    obtain ⟨m0, m1, m2, m3, m4⟩ := h.letterCells hm
    have HL := Lib.hid hlet
    have HH := Lib.hid hh
    clear hlet hh hok hm hk e h
    generalize hn : N.mail.length = n at *
    clear hn
    unfold netPtr Mail.val at *
    go_enter Try.func24, Try.ntmps24
    go_wp2_with fail
    refine HL.out.mono ?_
    rintro e w' ⟨rfl, rfl⟩
    go_wp2_with fail
    refine HH.out.mono ?_
    rintro e w1 ⟨rfl, hM⟩
    have HM := Lib.hid hM
    clear hM
    go_wp2
    go_ret
    exact ⟨rfl, HM.out⟩

set_option maxRecDepth 20000 in
set_option maxHeartbeats 1000000 in
theorem deliver_any {w : World} {L : Lay} {N : Net} (h : Rep w L N) (hok : N.Ok) (k : Int) :
    Calls Try.prog 23 #[netPtr L, .int .i64 k] w fun e w' => e = .returned (.int .i64 (N.deliver k).2) ∧ Moves w L N w' (N.deliver k).1 := by
  have hlet := letter_any h hok k
  cases hk : N.isLetter k with
  | false =>
    have e : N.deliver k = (N, 3) := by simp [Net.deliver, hk]
    have hM := Moves.refl h
    rw [e]
    rw [hk] at hlet
    have HM := Lib.hid hM
    have HL := Lib.hid hlet
    clear hM hk h hok e hlet
    unfold netPtr at *
    go_enter Try.func23, Try.ntmps23
    go_wp2_with fail
    refine HL.out.mono ?_
    rintro e w' ⟨rfl, rfl⟩
    go_wp2
    go_ret
    exact ⟨rfl, HM.out⟩
  | true =>
    obtain ⟨i, m, rfl, hm, hi⟩ := isLetter_elim hk
    obtain ⟨N', hN'⟩ : ∃ N' : Net, N' = { N with mail := N.mail.eraseIdx i } := ⟨_, rfl⟩
    have e : N.deliver i = (N'.handle m, 0) := by simp [Net.deliver, hk, hm, hN']
    rw [e]
    rw [hk] at hlet
    have hc : 0 < L.mcap := by have := h.mlen; omega
    obtain ⟨m0, m1, m2, m3, m4⟩ := h.letterCells hm
    have c1 := h.net1
    rw [h.mailVal (by omega)] at c1
    obtain ⟨w1, hw1⟩ : ∃ w1, w1 = w.alloc (.cells #[.int .i64 m.src, .int .i64 m.dst, .int .i64 m.kind, .int .i64 m.tx, .int .i64 m.n] 77) := ⟨_, rfl⟩
    have hbox : BoxM w1 w.heap.size m := hw1 ▸ BoxM.new w m
    have hmv : Moved w L N w1 L N := hw1 ▸ (Moved.refl h).alloc _
    have h1 := hmv.rep
    have hbn : w.heap.size ≠ L.at_ .net := fun e => by have := h.netLt; omega
    have hbm : w.heap.size ≠ L.at_ .mail := fun e => by have := h.mut_lt ⟨.mail, hc, rfl⟩; omega
    have hblt : w.heap.size < w1.heap.size := lt_of hbox
    obtain ⟨o, ho, hr⟩ := h1.mailAt hc
    have hdel := delete_any (k := i) ho hr mails_one hi (by have := hr.le.2; unfold maxLen at this; omega)
    have d1 := h1.net1
    rw [h1.mailVal (by omega)] at d1
    have hmok : m.Ok N'.sites.length N'.count := by rw [hN']; exact hok.mails m (List.mem_of_getElem? hm)
    have hok' : N'.Ok := by rw [hN']; exact hok.erase i
    have hfin : ∀ w2, (∃ o', w2.heap[L.at_ .mail]? = some o' ∧ IsRow 77 5 (N.mail.length - 1) L.mcap ((N.mail.flatMap Mail.cells).take (i * 5) ++ (N.mail.flatMap Mail.cells).drop ((i + 1) * 5)) o' ∧ Only (fun b => b = L.at_ .mail) w1 w2) →
        (w2.cell? ⟨L.at_ .net, 1, none⟩ = some (.slice (some ⟨L.at_ .mail, 0, none⟩) N.mail.length L.mcap) ∧ w2.frozen? ⟨L.at_ .net, 1, none⟩ = false ∧ L.at_ .net < w2.heap.size) ∧
        BoxM (w2.setCell ⟨L.at_ .net, 1, none⟩ (.slice (some ⟨L.at_ .mail, 0, none⟩) (N.mail.length - 1) L.mcap)) w.heap.size m ∧
        Calls Try.prog 42 #[netPtr L, m.val] (w2.setCell ⟨L.at_ .net, 1, none⟩ (.slice (some ⟨L.at_ .mail, 0, none⟩) (N.mail.length - 1) L.mcap)) fun e w' => e = .returned (.tuple #[]) ∧ Moves w L N w' (N'.handle m) := by
      intro w2 ⟨o', h2, h3, h4⟩
      refine ⟨h1.netStill hc h4 1 d1, ?_, ?_⟩
      · exact (setCell_other _ _ _ hbn).trans ((h4.block _ hblt hbm).trans hbox)
      obtain ⟨L1, hS⟩ := h1.cutMail hi h2 h3 h4
      rw [← hN'] at hS
      have := handle_any hS.moved.rep hok' hmok
      have e1 : netPtr L1 = netPtr L := by unfold netPtr; rw [hS.moved.net]
      rw [e1] at this
      refine this.mono ?_
      rintro e w' ⟨rfl, L2, hM⟩
      exact ⟨rfl, L2, (hmv.trans hS.moved).trans hM⟩
    have hmm := hok.mail
    have hnl := h.netLt
    have HL := Lib.hid hlet
    have HD := Lib.hid hdel
    have HF := Lib.hid hfin
    have HW1 := Lib.hid hw1
    have n1 := h1.net1
    rw [h1.mailVal (by omega)] at n1
    have hbc := hbox.cells
    clear hlet hdel hfin ho hr hok hm hk e h hN' hmok hok' hw1 hmv h1 hbn hbm hblt hbox
    generalize hn : N.mail.length = n at *
    clear hn
    unfold netPtr Mail.val at *
    go_enter Try.func23, Try.ntmps23
    go_wp2_with fail
    refine HL.out.mono ?_
    rintro e w' ⟨rfl, rfl⟩
    go_wp2_with fail
    rw [← HW1.out]
    refine HD.out.mono ?_
    rintro e w2 ⟨rfl, hx⟩
    obtain ⟨⟨d1, d2, d3⟩, hb3, hC⟩ := HF.out _ hx
    have HC := Lib.hid hC
    obtain ⟨b0, b1, b2, b3, b4⟩ := hb3.cells
    clear hx hC hb3
    go_wp2_with fail
    refine HC.out.mono ?_
    rintro e w3 ⟨rfl, hM⟩
    have HM := Lib.hid hM
    clear hM
    go_wp2
    go_ret
    exact ⟨rfl, HM.out⟩
end Go.Proofs.Ytfmfgckfeojfcaa
