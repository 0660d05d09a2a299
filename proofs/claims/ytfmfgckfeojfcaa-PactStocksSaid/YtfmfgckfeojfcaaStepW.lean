/- Walks of package pact: Tick. -/
import Derived.Test.YtfmfgckfeojfcaaStepV
import Derived.Test.YtfmfgckfeojfcaaStepC2
import Derived.Test.YtfmfgckfeojfcaaStepQ
import Derived.Test.YtfmfgckfeojfcaaPlainA
set_option linter.unusedSimpArgs false
set_option linter.unusedVariables false
namespace Go.Proofs.Ytfmfgckfeojfcaa
open Go.RowKit Go.Maps Go.ChangeMaps

theorem tickF1_any {W : World} {bd mb : Nat} {a : Option Addr} {n c : Nat} {m : List (Int × Unit)} {o : Obj} (hb : BoxD W bd a n c (some mb)) (ho : W.heap[mb]? = some o) (hM : MapObj okI (Value.int .i64) (setV m) o) {x : Int} (hx : i64 x) :
    Calls Try.prog 45 #[.int .i64 x, .pointer (some ⟨bd, 0, none⟩)] W fun e w' => e = .returned (.bool (AL.has x m)) ∧ W = w' := by
  have hbc := hb.cells
  have hl := hM.lookSet hx mb W ho
  clear hb ho hM
  go_enter Try.func45, Try.ntmps45
  go_wp2
  go_ret
  exact ⟨rfl, rfl⟩
theorem tickF2_any {W : World} {bd mb : Nat} {a : Option Addr} {n c : Nat} {m : List (Int × Unit)} {o : Obj} (hb : BoxD W bd a n c (some mb)) (ho : W.heap[mb]? = some o) (hM : MapObj okI (Value.int .i64) (setV m) o) {x : Int} (hx : i64 x) :
    Calls Try.prog 46 #[.int .i64 x, .pointer (some ⟨bd, 0, none⟩)] W fun e w' => e = .returned (.bool (AL.has x m)) ∧ W = w' := by
  have hbc := hb.cells
  have hl := hM.lookSet hx mb W ho
  clear hb ho hM
  go_enter Try.func46, Try.ntmps46
  go_wp2
  go_ret
  exact ⟨rfl, rfl⟩
theorem call_tickF1 (args : Array Value) (w : World) : (callFunc 45 args).run Try.prog w = .ok (.enter 45 args) w := by kernel_rfl
theorem call_tickF2 (args : Array Value) (w : World) : (callFunc 46 args).run Try.prog w = .ok (.enter 46 args) w := by kernel_rfl


theorem Sent.below {w W w' : World} {L L1 : Lay} {N N1 : Net} (h : Sent w L N W L1 N1) (hb : Below W.heap.size W w') : Sent w L N w' L1 N1 := ⟨h.moved.below hb, h.keep, h.pbs, h.same, h.count⟩

theorem BoxD.only {S : Nat → Prop} {w w' : World} {b : Nat} {a : Option Addr} {n c : Nat} {mb : Option Nat} (h : BoxD w b a n c mb) (ho : Only S w w') (hs : ¬ S b) : BoxD w' b a n c mb := ho.same h hs

/-- What a round over the deals meets. -/
theorem tickDeal_at {wb wr : World} {Lb L' : Lay} {Nb N' : Net} (hS : Sent wb Lb Nb wr L' N') (hok : N'.Ok) {i : Nat} {s : Site} (hs : N'.sites[i]? = some s) (g : Bool) (kind : Int) {tx : Int} {d : Deal} (hd : AL.get? tx (s.deals g) = some d) (htx : i64 tx) (bf : FuncId)
    (hcall : ∀ (args : Array Value) (w : World), (callFunc bf args).run Try.prog w = .ok (.enter bf args) w)
    (hbf : ∀ (W : World) (bd mb : Nat) (a : Option Addr) (n c : Nat) (m : List (Int × Unit)) (o : Obj), BoxD W bd a n c (some mb) → W.heap[mb]? = some o → MapObj okI (Value.int .i64) (setV m) o → ∀ x, i64 x → Calls Try.prog bf #[.int .i64 x, .pointer (some ⟨bd, 0, none⟩)] W fun e w' => e = .returned (.bool (AL.has x m)) ∧ W = w') :
    ∃ (pb cap n mb : Nat), (Instr.lookup 62 (.map (some (L'.at_ (.deals g i)))) (.int .i64 tx) false).run Try.prog wr = .ok (.agg #[.slice (some ⟨pb, 0, none⟩) n cap, .map (some mb)]) wr ∧
      Calls Try.prog 34 #[netPtr Lb, .int .i64 i, .int .i64 kind, .int .i64 tx, .slice (some ⟨pb, 0, none⟩) n cap, .func (.func bf) #[] #[.pointer (some ⟨wr.heap.size, 0, none⟩)]] (wr.alloc (.cells #[.slice (some ⟨pb, 0, none⟩) n cap, .map (some mb)] 73)) fun e w' =>
        e = .returned (.tuple #[]) ∧ Sents wb Lb Nb w' (Net.tickDeal i kind N' (tx, d)) := by
  have hR := hS.moved.rep
  have hdN := deal_of hs hd
  have hdok := hok.dealOk hs hd
  have hpt := hR.parts _ _ _ _ hdN
  have hpm : ¬ Mut L' N' (L'.pb g i tx).1 := fun ⟨t, ht, e⟩ => hR.apart _ _ _ _ t hdN ht e
  obtain ⟨o, ho, hM⟩ := hR.dealsAt hs g
  refine ⟨(L'.pb g i tx).1, (L'.pb g i tx).2, d.parts.length, L'.at_ (.done g i tx), ?_, ?_⟩
  · have := hM.look keyI encI_inj Try.underlying62 zero_deal (okI_of htx) false wr ho
    rw [this, get_dealsV, hd]; rfl
  · have hS2 := hS.alloc (.cells #[.slice (some ⟨(L'.pb g i tx).1, 0, none⟩) d.parts.length (L'.pb g i tx).2, .map (some (L'.at_ (.done g i tx)))] 73)
    have hbx : BoxD (wr.alloc (.cells #[.slice (some ⟨(L'.pb g i tx).1, 0, none⟩) d.parts.length (L'.pb g i tx).2, .map (some (L'.at_ (.done g i tx)))] 73)) wr.heap.size (some ⟨(L'.pb g i tx).1, 0, none⟩) d.parts.length (L'.pb g i tx).2 (some (L'.at_ (.done g i tx))) := alloc_same wr _
    have hbm : ¬ Mut L' N' wr.heap.size := hR.new_mut (Nat.le_refl _)
    have hc := tell_in hS2.moved.rep hok.mail i kind tx (pb := (L'.pb g i tx).1) (cap := (L'.pb g i tx).2) (hpt.alloc _) hpm (by have := hdok.len; omega) bf #[.pointer (some ⟨wr.heap.size, 0, none⟩)] (fun x => AL.has x d.done) hcall (fun W L2 N2 hT x hx => by
      have hb2 := hbx.only hT.moved.only hbm
      have hd2 : N2.deal g i tx = some d := by rw [deal_same hT.same]; exact hdN
      obtain ⟨o2, ho2, hM2⟩ := hT.moved.rep.doneAt hd2
      rw [hT.keep _ (by simp)] at ho2
      obtain ⟨p, hp, rfl⟩ := hx
      have h8 := hok.eight
      have := hdok.sites p hp
      exact hbf W _ _ _ _ _ _ o2 hb2 ho2 hM2 p.site (by unfold i64; omega))
    have e1 : netPtr L' = netPtr Lb := by unfold netPtr; rw [hS.moved.net]
    rw [e1] at hc
    refine hc.mono ?_
    rintro e w' ⟨rfl, L3, hT⟩
    exact ⟨rfl, L3, hS2.trans hT⟩

/-- The keys of a map, in a row of their own. -/
def RowAt (w : World) (a : Option Addr) (ks : List Int) (bad : Nat → Prop) : Prop := ∀ (j : Nat) (x : Int), ks[j]? = some x → ∃ rb, a = some ⟨rb, 0, none⟩ ∧ w.cell? ⟨rb, j, none⟩ = some (.int .i64 x) ∧ ¬ bad rb ∧ rb < w.heap.size
theorem RowAt.sent {w wr : World} {L L' : Lay} {N N' : Net} {a : Option Addr} {ks : List Int} (h : RowAt w a ks (Mut L N)) (hS : Sent w L N wr L' N') {j : Nat} {x : Int} (hx : ks[j]? = some x) : ∃ rb, a = some ⟨rb, 0, none⟩ ∧ wr.cell? ⟨rb, j, none⟩ = some (.int .i64 x) ∧ rb < wr.heap.size := by
  obtain ⟨rb, e, hc, hb, hl⟩ := h j x hx
  refine ⟨rb, e, ?_, Nat.lt_of_lt_of_le hl hS.moved.only.size⟩
  rw [← hc]
  simp only [World.cell?]
  rw [hS.moved.only.block rb hl hb]
theorem RowAt.of_owns {w W : World} {v : Value} {ks : List Int} {bad : Nat → Prop} (h : W.ownsRow w.heap.size 3 1 v ks.length (ks.map (Value.int .i64))) (hbad : ∀ b, bad b → b < w.heap.size) : ∃ a c, v = .slice a ks.length c ∧ RowAt W a ks bad := by
  rcases isRow_of_owns h with ⟨rfl, e, _⟩ | ⟨g, cap, o, rfl, hg, ho, hr⟩
  · refine ⟨none, 0, by rw [e], fun j x hx => ?_⟩
    have := List.eq_nil_of_length_eq_zero e
    rw [this] at hx; simp at hx
  · refine ⟨_, _, rfl, fun j x hx => ⟨g, rfl, hr.cell ho (by rw [List.getElem?_map, hx]; rfl), fun hb => by have := hbad g hb; omega, lt_of ho⟩⟩

theorem tickDeal_same (k kind : Int) (N : Net) (p : Int × Deal) : (Net.tickDeal k kind N p).sites = N.sites := (tell_same _ _ _ _ _ _).1

/-- A round over the deals. -/
theorem tickRound {wb wr : World} {Lb L' : Lay} {Nb : Net} {i : Nat} {s : Site} {kind : Int} {g : Bool} (hokb : Nb.Ok) (hsb : Nb.sites[i]? = some s) (hkind : 1 ≤ kind ∧ kind ≤ 7) {k : Nat} (hk : k < (s.deals g).length) (hS : Sent wb Lb Nb wr L' (((s.deals g).take k).foldl (Net.tickDeal i kind) Nb)) (bf : FuncId)
    (hcall : ∀ (args : Array Value) (w : World), (callFunc bf args).run Try.prog w = .ok (.enter bf args) w)
    (hbf : ∀ (W : World) (bd mb : Nat) (a : Option Addr) (n c : Nat) (m : List (Int × Unit)) (o : Obj), BoxD W bd a n c (some mb) → W.heap[mb]? = some o → MapObj okI (Value.int .i64) (setV m) o → ∀ x, i64 x → Calls Try.prog bf #[.int .i64 x, .pointer (some ⟨bd, 0, none⟩)] W fun e w' => e = .returned (.bool (AL.has x m)) ∧ W = w') :
    ∃ tx : Int, (AL.keys (s.deals g))[k]? = some tx ∧ wr.cell? ⟨Lb.at_ .sites, i * 7 + (if g then 5 else 6), none⟩ = some (.map (some (Lb.at_ (.deals g i)))) ∧ Lb.at_ .sites < wr.heap.size ∧
    ∃ (pb cap n mb : Nat), (Instr.lookup 62 (.map (some (Lb.at_ (.deals g i)))) (.int .i64 tx) false).run Try.prog wr = .ok (.agg #[.slice (some ⟨pb, 0, none⟩) n cap, .map (some mb)]) wr ∧
      Calls Try.prog 34 #[netPtr Lb, .int .i64 i, .int .i64 kind, .int .i64 tx, .slice (some ⟨pb, 0, none⟩) n cap, .func (.func bf) #[] #[.pointer (some ⟨wr.heap.size, 0, none⟩)]] (wr.alloc (.cells #[.slice (some ⟨pb, 0, none⟩) n cap, .map (some mb)] 73)) fun e w' =>
        e = .returned (.tuple #[]) ∧ Sents wb Lb Nb w' (((s.deals g).take (k + 1)).foldl (Net.tickDeal i kind) Nb) := by
  obtain ⟨p, hp⟩ : ∃ p, (s.deals g)[k]? = some p := ⟨(s.deals g)[k], by simp⟩
  obtain ⟨tx, d⟩ := p
  have ho := hokb.at hsb
  have hmem : (tx, d) ∈ s.deals g := List.mem_of_getElem? hp
  have hget : AL.get? tx (s.deals g) = some d := AL.get?_of_mem (rising_nodup (ho.dealR g)) hmem
  have htb := ho.dealK g _ hmem
  have hcc := hokb.count
  have hil := siteLt hsb
  have hfold := foldl_tickDeal (k := i) hkind ((s.deals g).take k) hokb (by omega) (fun q hq => ho.dealK g q (List.mem_of_mem_take hq)) (fun q hq => ho.dealV g q (List.mem_of_mem_take hq))
  have hs' : (((s.deals g).take k).foldl (Net.tickDeal i kind) Nb).sites[i]? = some s := by rw [hfold.2.1]; exact hsb
  obtain ⟨pb, cap, n, mb, h1, h2⟩ := tickDeal_at hS hfold.1 hs' g kind hget (by have := htb; unfold i64; omega) bf hcall hbf
  have hkd : L'.at_ (.deals g i) = Lb.at_ (.deals g i) := hS.keep _ (by simp)
  refine ⟨tx, by simp [AL.keys, hp], ?_, by rw [← hS.moved.sites]; exact hS.moved.rep.sitesLt, pb, cap, n, mb, by rw [← hkd]; exact h1, h2.mono ?_⟩
  · rw [← hS.moved.sites, ← hkd]
    cases g
    · exact hS.moved.rep.site6 hs'
    · exact hS.moved.rep.site5 hs'
  · rintro e w' ⟨rfl, hT⟩
    refine ⟨rfl, ?_⟩
    rw [List.take_add_one, hp, List.foldl_append]
    exact hT

/-- The keys of the deals, sorted. -/
theorem sortStage {w wr : World} {L L1 : Lay} {N N1 : Net} (hS : Sent w L N wr L1 N1) (hok : N1.Ok) {i : Nat} {s : Site} (hs : N1.sites[i]? = some s) (g : Bool) :
    wr.cell? ⟨L.at_ .sites, i * 7 + (if g then 5 else 6), none⟩ = some (.map (some (L.at_ (.deals g i)))) ∧ L.at_ .sites < wr.heap.size ∧
    Calls Try.prog 43 #[.func (.func 53) #[] #[.pointer (some ⟨wr.heap.size, 0, none⟩)]] (wr.alloc (.cells #[.map (some (L.at_ (.deals g i)))] 62)) fun e w' =>
      ∃ a c, e = .returned (.slice a (s.deals g).length c) ∧ Sent w L N w' L1 N1 ∧ RowAt w' a (AL.keys (s.deals g)) (Mut L1 N1) := by
  have hR := hS.moved.rep
  have hkd : L1.at_ (.deals g i) = L.at_ (.deals g i) := hS.keep _ (by simp)
  refine ⟨?_, by rw [← hS.moved.sites]; exact hR.sitesLt, ?_⟩
  · rw [← hS.moved.sites, ← hkd]
    cases g
    · exact hR.site6 hs
    · exact hR.site5 hs
  obtain ⟨o, ho, hM⟩ := hR.dealsAt hs g
  rw [hkd] at ho
  have hsok := hok.at hs
  have hl := hsok.dealLen hok.count g
  have hbx : (wr.alloc (.cells #[.map (some (L.at_ (.deals g i)))] 62)).heap[wr.heap.size]? = some (.cells #[.map (some (L.at_ (.deals g i)))] 62 (0, 0)) := alloc_same wr _
  have hc := sortedD_any hM (w := wr.alloc (.cells #[.map (some (L.at_ (.deals g i)))] 62)) (b := L.at_ (.deals g i)) (Bm := wr.heap.size) ((alloc_other wr _ (lt_of ho)).trans ho) (cell_of hbx rfl) (lt_of hbx) (by simp [dealsV]; omega) (m' := s.deals g) (by simp [AL.keys, dealsV]) (hsok.dealR g)
  refine hc.mono ?_
  rintro e w' ⟨v, rfl, hrow, hb⟩
  have hkl : (AL.keys (s.deals g)).length = (s.deals g).length := by simp [AL.keys]
  rw [← hkl] at hrow
  obtain ⟨a, c, rfl, hra⟩ := RowAt.of_owns (bad := Mut L1 N1) hrow (fun b hb => by have := hR.mut_lt hb; simp; omega)
  exact ⟨a, c, by rw [hkl], (hS.alloc _).below hb, hra⟩
theorem sortStageP {w wr : World} {L L1 : Lay} {N N1 : Net} (hS : Sent w L N wr L1 N1) (hok : N1.Ok) {i : Nat} {s : Site} (hs : N1.sites[i]? = some s) :
    wr.cell? ⟨L.at_ .sites, i * 7 + 2, none⟩ = some (.map (some (L.at_ (.prom i)))) ∧ L.at_ .sites < wr.heap.size ∧
    Calls Try.prog 43 #[.func (.func 54) #[] #[.pointer (some ⟨wr.heap.size, 0, none⟩)]] (wr.alloc (.cells #[.map (some (L.at_ (.prom i)))] 60)) fun e w' =>
      ∃ a c, e = .returned (.slice a s.promised.length c) ∧ Sent w L N w' L1 N1 ∧ RowAt w' a (AL.keys s.promised) (Mut L1 N1) := by
  have hR := hS.moved.rep
  have hkd : L1.at_ (.prom i) = L.at_ (.prom i) := hS.keep _ (by simp)
  refine ⟨?_, by rw [← hS.moved.sites]; exact hR.sitesLt, ?_⟩
  · rw [← hS.moved.sites, ← hkd]
    exact hR.site2 hs
  obtain ⟨o, ho, hM⟩ := hR.promAt hs
  rw [hkd] at ho
  have hsok := hok.at hs
  have hl := hsok.promLen hok.count
  have hbx : (wr.alloc (.cells #[.map (some (L.at_ (.prom i)))] 60)).heap[wr.heap.size]? = some (.cells #[.map (some (L.at_ (.prom i)))] 60 (0, 0)) := alloc_same wr _
  have hc := sortedP_any hM (w := wr.alloc (.cells #[.map (some (L.at_ (.prom i)))] 60)) (b := L.at_ (.prom i)) (Bm := wr.heap.size) ((alloc_other wr _ (lt_of ho)).trans ho) (cell_of hbx rfl) (lt_of hbx) (by simp [promV]; omega) (m' := s.promised) (by simp [AL.keys, promV]) hsok.promR
  refine hc.mono ?_
  rintro e w' ⟨v, rfl, hrow, hb⟩
  have hkl : (AL.keys s.promised).length = s.promised.length := by simp [AL.keys]
  rw [← hkl] at hrow
  obtain ⟨a, c, rfl, hra⟩ := RowAt.of_owns (bad := Mut L1 N1) hrow (fun b hb => by have := hR.mut_lt hb; simp; omega)
  exact ⟨a, c, by rw [hkl], (hS.alloc _).below hb, hra⟩
/-- A round over the promises. -/
theorem tickRoundP {wb wr : World} {Lb L' : Lay} {Nb : Net} {i : Nat} {s : Site} (hokb : Nb.Ok) (hsb : Nb.sites[i]? = some s) {k : Nat} (hk : k < s.promised.length) (hS : Sent wb Lb Nb wr L' ((s.promised.take k).foldl (Net.tickProm i) Nb)) :
    ∃ tx : Int, (AL.keys s.promised)[k]? = some tx ∧ wr.cell? ⟨Lb.at_ .sites, i * 7 + 2, none⟩ = some (.map (some (Lb.at_ (.prom i)))) ∧ Lb.at_ .sites < wr.heap.size ∧
    ∃ (x y : Int) (o : Obj), wr.heap[Lb.at_ (.prom i)]? = some o ∧ (∀ W : World, W.heap[Lb.at_ (.prom i)]? = some o → (Instr.lookup 60 (.map (some (Lb.at_ (.prom i)))) (.int .i64 tx) false).run Try.prog W = .ok (.agg #[.int .i64 x, .int .i64 y]) W) ∧
      ∀ wr2, Sent wb Lb Nb wr2 L' ((s.promised.take k).foldl (Net.tickProm i) Nb) → Calls Try.prog 48 #[netPtr Lb, .int .i64 i, .int .i64 x, .int .i64 7, .int .i64 tx, .int .i64 0] wr2 fun e w' =>
        e = .returned (.tuple #[]) ∧ Sents wb Lb Nb w' ((s.promised.take (k + 1)).foldl (Net.tickProm i) Nb) := by
  obtain ⟨p, hp⟩ : ∃ p, s.promised[k]? = some p := ⟨s.promised[k], by simp⟩
  obtain ⟨tx, x, y⟩ := p
  have ho := hokb.at hsb
  have hmem : (tx, x, y) ∈ s.promised := List.mem_of_getElem? hp
  have hget : AL.get? tx s.promised = some (x, y) := AL.get?_of_mem (rising_nodup ho.promR) hmem
  have htb := ho.promK _ hmem
  have hcc := hokb.count
  have hil := siteLt hsb
  have hfold := foldl_tickProm (k := i) (s.promised.take k) hokb (by omega) (fun q hq => ho.promK q (List.mem_of_mem_take hq)) (fun q hq => ho.promS q (List.mem_of_mem_take hq))
  have hs' : ((s.promised.take k).foldl (Net.tickProm i) Nb).sites[i]? = some s := by rw [hfold.2.1]; exact hsb
  have hkd : L'.at_ (.prom i) = Lb.at_ (.prom i) := hS.keep _ (by simp)
  obtain ⟨o, hoo, hM⟩ := hS.moved.rep.promAt hs'
  rw [hkd] at hoo
  refine ⟨tx, by simp [AL.keys, hp], ?_, by rw [← hS.moved.sites]; exact hS.moved.rep.sitesLt, x, y, o, hoo, fun W hW => ?_, fun wr2 hS2 => ?_⟩
  · rw [← hS.moved.sites, ← hkd]; exact hS.moved.rep.site2 hs'
  · have := hM.look keyI encI_inj Try.underlying60 zero_prom (okI_of (n := tx) (by have := htb; unfold i64; omega)) false W hW
    obtain ⟨a, b, hab, hpq⟩ := get_promV tx s.promised
    obtain ⟨rfl, rfl⟩ := hpq _ hget
    rw [this, hab]; rfl
  · have hc := send_any hS2.moved.rep hfold.1.mail i x 7 tx 0
    have e1 : netPtr L' = netPtr Lb := by unfold netPtr; rw [hS2.moved.net]
    rw [e1] at hc
    refine hc.mono ?_
    rintro e w' ⟨rfl, L3, hT⟩
    refine ⟨rfl, L3, ?_⟩
    rw [List.take_add_one, hp, List.foldl_append]
    exact hS2.trans hT

theorem run_coord (x y : Int) (w : World) : (Instr.field 69 (.agg #[.int .i64 x, .int .i64 y]) 0).run Try.prog w = .ok (.int .i64 x) w := by kernel_rfl

set_option maxRecDepth 20000 in
set_option maxHeartbeats 2000000 in
theorem tick_any {w : World} {L : Lay} {N : Net} (h : Rep w L N) (hok : N.Ok) (k : Int) :
    Calls Try.prog 26 #[netPtr L, .int .i64 k] w fun e w' => e = .returned (.int .i64 (N.tick k).2) ∧ Moves w L N w' (N.tick k).1 := by
  rcases awake_cases h hok k with ⟨i, s, rfl, hs, hd, hA⟩ | ⟨er, hA, her, hC⟩
  · have hup := awake_up h hok.eight hs hd
    have HU := Lib.hid hup
    have hsok := hok.at hs
    have hi8 := siteLt hs
    have he8 := hok.eight
    have hl1 := hsok.dealLen hok.count false
    have hl2 := hsok.dealLen hok.count true
    have hl3 := hsok.promLen hok.count
    have e : N.tick i = (s.promised.foldl (Net.tickProm i) (s.granted.foldl (Net.tickDeal i 4) (s.opened.foldl (Net.tickDeal i 1) N)), 0) := by
      unfold Net.tick; rw [hA]
    rw [e]
    obtain ⟨N1, hN1⟩ : ∃ N1, N1 = (s.deals false).foldl (Net.tickDeal i 1) N := ⟨_, rfl⟩
    obtain ⟨N2, hN2⟩ : ∃ N2, N2 = (s.deals true).foldl (Net.tickDeal i 4) N1 := ⟨_, rfl⟩
    rw [show s.promised.foldl (Net.tickProm i) (s.granted.foldl (Net.tickDeal i 4) (s.opened.foldl (Net.tickDeal i 1) N)) = s.promised.foldl (Net.tickProm i) N2 by rw [hN2, hN1]; rfl]
    obtain ⟨ok1, sm1, ct1⟩ := foldl_tickDeal (k := i) (kind := 1) (by omega) (s.deals false) hok (by omega) (hsok.dealK false) (hsok.dealV false)
    rw [← hN1] at ok1 sm1 ct1
    obtain ⟨ok2, sm2, ct2⟩ := foldl_tickDeal (k := i) (kind := 4) (by omega) (s.deals true) ok1 (by rw [sm1]; omega) (by rw [ct1]; exact hsok.dealK true) (by rw [sm1]; exact hsok.dealV true)
    rw [← hN2] at ok2 sm2 ct2
    have hs1 : N1.sites[i]? = some s := by rw [sm1]; exact hs
    have hs2 : N2.sites[i]? = some s := by rw [sm2, sm1]; exact hs
    have st1 := sortStage (Sent.refl h) hok hs false
    obtain ⟨k1, k2, k3⟩ := st1
    have HS1 := Lib.hid k3
    have HOK := Lib.hid hok
    have HOK1 := Lib.hid ok1
    have HOK2 := Lib.hid ok2
    have HS := Lib.hid hs
    have HSa := Lib.hid hs1
    have HSb := Lib.hid hs2
    have HN1 := Lib.hid hN1
    have HN2 := Lib.hid hN2
    obtain ⟨n1, hn1⟩ : ∃ n1, (s.deals false).length = n1 := ⟨_, rfl⟩
    obtain ⟨n2, hn2⟩ : ∃ n2, (s.deals true).length = n2 := ⟨_, rfl⟩
    obtain ⟨n3, hn3⟩ : ∃ n3, s.promised.length = n3 := ⟨_, rfl⟩
    rw [hn1] at hl1 HS1
    rw [hn2] at hl2
    rw [hn3] at hl3
    have HL1 := Lib.hid hn1
    have HL2 := Lib.hid hn2
    have HL3 := Lib.hid hn3
    simp only [Bool.false_eq_true, if_false] at k1
    clear hup k3 hA e hsok hok ok1 ok2 hs hs1 hs2 hN1 hN2 hn1 hn2 hn3 sm1 sm2 ct1 ct2 hd h
    unfold netPtr sitePtr at *
    go_enter Try.func26, Try.ntmps26
    go_wp2_with fail
    refine HU.out.mono ?_
    rintro e w' ⟨rfl, rfl⟩
    clear HU
    go_wp2_with fail
    refine (keysD_any _ _).mono ?_
    rintro e w' ⟨rfl, rfl⟩
    go_wp2_with fail
    refine HS1.out.mono ?_
    rintro e w2 ⟨a1, c1, rfl, hS2, hR2⟩
    have HB := Lib.hid hS2
    have HR := Lib.hid hR2
    clear hS2 hR2 HS1 k1 k2
    go_wp2
    go_loopw [31] (fun i' wr => ∃ (k : Nat) (L' : Lay), i' = .int .i64 k ∧ k ≤ n1 ∧ Sent w2 L N wr L' (((s.deals false).take k).foldl (Net.tickDeal i 1) N)) (fun i' _ => n1 - (intOf i').toNat)
    case atStart => exact ⟨0, L, rfl, Nat.zero_le _, Sent.refl HB.out.moved.rep⟩
    case round =>
      obtain ⟨k, L', rfl, hk, hS⟩ := hrel
      by_cases hlt : k < n1
      · obtain ⟨tx, htx, hc6, hsl, pb, cap, n, mb, hlk, hcall⟩ := tickRound (g := false) HOK.out HS.out (by omega : 1 ≤ (1 : Int) ∧ (1 : Int) ≤ 7) (by rw [HL1.out]; exact hlt) hS 45 call_tickF1 (fun W bd mb a n c m o h1 h2 h3 x hx => tickF1_any h1 h2 h3 hx)
        obtain ⟨rb, rfl, hrc, hrl⟩ := HR.out.sent hS htx
        simp only [Bool.false_eq_true, if_false] at hc6
        unfold netPtr at hcall
        have HC := Lib.hid hcall
        clear hcall hS htx
        go_wp2_with fail
        refine HC.out.mono ?_
        rintro e w5 ⟨rfl, L5, hS5⟩
        have HS5 := Lib.hid hS5
        clear hS5 hlk hc6 hrc
        go_wp2
        go_roundw
        case rel => exact ⟨k + 1, L5, by go_num, by omega, HS5.out⟩
        case measure => simp [intOf]; omega
      · have hkn : k = n1 := by omega
        subst hkn
        rw [List.take_of_length_le (by rw [HL1.out]; exact Nat.le_refl _), ← HN1.out] at hS
        have hS1 := HB.out.trans hS
        obtain ⟨k1, k2, k3⟩ := sortStage hS1 HOK1.out HSa.out true
        rw [HL2.out] at k3
        simp only [if_true] at k1
        have HS1 := Lib.hid k3
        clear k3 hS hS1 HB HR
        go_wp2_with fail
        refine (keysD_any _ _).mono ?_
        rintro e w' ⟨rfl, rfl⟩
        go_wp2_with fail
        refine HS1.out.mono ?_
        rintro e w3 ⟨a2, c2, rfl, hS2, hR2⟩
        have HB := Lib.hid hS2
        have HR := Lib.hid hR2
        have eS : L'.at_ .sites = L.at_ .sites := hS2.moved.sites
        have eD : L'.at_ (.deals true i) = L.at_ (.deals true i) := hS2.keep _ (by simp)
        have eN : L'.at_ .net = L.at_ .net := hS2.moved.net
        have ES := Lib.hid eS
        have ED := Lib.hid eD
        have EN := Lib.hid eN
        clear hS2 hR2 HS1 k1 k2 eS eD eN HL1 hl1 hk hlt
        go_wp2
        go_loopw [56] (fun i' wr => ∃ (k : Nat) (L2 : Lay), i' = .int .i64 k ∧ k ≤ n2 ∧ Sent w3 L' N1 wr L2 (((s.deals true).take k).foldl (Net.tickDeal i 4) N1)) (fun i' _ => n2 - (intOf i').toNat)
        case atStart => exact ⟨0, L', rfl, Nat.zero_le _, Sent.refl HB.out.moved.rep⟩
        case round =>
          obtain ⟨k, L2, rfl, hk, hS⟩ := hrel
          by_cases hlt : k < n2
          · obtain ⟨tx, htx, hc5, hsl, pb, cap, n, mb, hlk, hcall⟩ := tickRound (g := true) HOK1.out HSa.out (by omega : 1 ≤ (4 : Int) ∧ (4 : Int) ≤ 7) (by rw [HL2.out]; exact hlt) hS 46 call_tickF2 (fun W bd mb a n c m o h1 h2 h3 x hx => tickF2_any h1 h2 h3 hx)
            obtain ⟨rb, rfl, hrc, hrl⟩ := HR.out.sent hS htx
            simp only [if_true] at hc5
            unfold netPtr at hcall
            rw [EN.out] at hcall
            rw [ES.out, ED.out] at hc5
            rw [ES.out] at hsl
            rw [ED.out] at hlk
            have HC := Lib.hid hcall
            clear hcall hS htx
            go_wp2_with fail
            refine HC.out.mono ?_
            rintro e w5 ⟨rfl, L5, hS5⟩
            have HS5 := Lib.hid hS5
            clear hS5 hlk hc5 hrc
            go_wp2
            go_roundw
            case rel => exact ⟨k + 1, L5, by go_num, by omega, HS5.out⟩
            case measure => simp [intOf]; omega
          · have hkn : k = n2 := by omega
            subst hkn
            rw [List.take_of_length_le (by rw [HL2.out]; exact Nat.le_refl _), ← HN2.out] at hS
            have hS1 := HB.out.trans hS
            obtain ⟨k1, k2, k3⟩ := sortStageP hS1 HOK2.out HSb.out
            rw [HL3.out] at k3
            have HS1 := Lib.hid k3
            clear k3 hS hS1 HB HR
            go_wp2_with fail
            refine (keysP_any _ _).mono ?_
            rintro e w' ⟨rfl, rfl⟩
            go_wp2_with fail
            refine HS1.out.mono ?_
            rintro e w4 ⟨a3, c3, rfl, hS2, hR2⟩
            have HB := Lib.hid hS2
            have HR := Lib.hid hR2
            have eS : L2.at_ .sites = L.at_ .sites := hS2.moved.sites
            have eD : L2.at_ (.prom i) = L.at_ (.prom i) := hS2.keep _ (by simp)
            have eN : L2.at_ .net = L.at_ .net := hS2.moved.net
            have ES := Lib.hid eS
            have ED := Lib.hid eD
            have EN := Lib.hid eN
            clear hS2 hR2 HS1 k1 k2 eS eD eN HL2 hl2 hk hlt
            go_wp2
            go_loopw [81] (fun i' wr => ∃ (k : Nat) (L3 : Lay), i' = .int .i64 k ∧ k ≤ n3 ∧ Sent w4 L2 N2 wr L3 ((s.promised.take k).foldl (Net.tickProm i) N2)) (fun i' _ => n3 - (intOf i').toNat)
            case atStart => exact ⟨0, L2, rfl, Nat.zero_le _, Sent.refl HB.out.moved.rep⟩
            case round =>
              obtain ⟨k, L3, rfl, hk, hS⟩ := hrel
              by_cases hlt : k < n3
              · obtain ⟨tx, htx, hc2, hsl, x, y, o, hoo, hlk, hcall⟩ := tickRoundP HOK2.out HSb.out (by rw [HL3.out]; exact hlt) hS
                obtain ⟨rb, rfl, hrc, hrl⟩ := HR.out.sent hS htx
                have hcall := hcall wr hS
                have hlk := hlk wr hoo
                unfold netPtr at hcall
                rw [EN.out] at hcall
                rw [ES.out, ED.out] at hc2
                rw [ES.out] at hsl
                rw [ED.out] at hlk
                have HC := Lib.hid hcall
                have hfl := run_coord x y
                clear hcall hS htx hoo
                go_wp2_with fail
                refine HC.out.mono ?_
                rintro e w5 ⟨rfl, L5, hS5⟩
                have HS5 := Lib.hid hS5
                clear hS5 hlk hc2 hrc
                go_wp2
                go_roundw
                case rel => exact ⟨k + 1, L5, by go_num, by omega, HS5.out⟩
                case measure => simp [intOf]; omega
              · have hkn : k = n3 := by omega
                subst hkn
                rw [List.take_of_length_le (by rw [HL3.out]; exact Nat.le_refl _)] at hS
                have hS1 : Hid (Moves w L N wr (s.promised.foldl (Net.tickProm i) N2)) := ⟨_, (HB.out.trans hS).moved⟩
                clear hS HB HR
                go_wp2
                go_ret
                exact ⟨rfl, hS1.out⟩
  · have e : N.tick k = (N, er) := by simp [Net.tick, hA]
    rw [e]
    have hM := Moves.refl h
    have hz : (er == 0) = false := by simpa using her
    have HM := Lib.hid hM
    have HC := Lib.hid hC
    clear hM hC hA e h hok her
    unfold netPtr at *
    go_enter Try.func26, Try.ntmps26
    go_wp2_with fail
    refine HC.out.mono ?_
    rintro e w' ⟨rfl, rfl⟩
    go_wp2
    go_ret
    exact ⟨rfl, HM.out⟩
end Go.Proofs.Ytfmfgckfeojfcaa
