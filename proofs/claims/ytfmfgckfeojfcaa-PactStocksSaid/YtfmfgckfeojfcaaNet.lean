/- The plain model of package pact: nets as data, the calls as functions on them. No condition, no program. -/
import Derived.Test.YtfmfgckfeojfcaaMaps
set_option linter.unusedSimpArgs false
set_option linter.unusedVariables false
namespace Go.Proofs.Ytfmfgckfeojfcaa

structure Move where
  site : Int
  change : Int
structure Mail where
  src : Int
  dst : Int
  kind : Int
  tx : Int
  n : Int
structure Deal where
  parts : List Move
  done : List (Int × Unit)
structure Site where
  stock : Int
  down : Bool
  promised : List (Int × (Int × Int))
  kept : List (Int × Unit)
  dropped : List (Int × Unit)
  granted : List (Int × Deal)
  opened : List (Int × Deal)
structure Net where
  sites : List Site
  mail : List Mail
  count : Int

def Site.fresh (stock : Int) : Site := ⟨stock, false, [], [], [], [], []⟩
def Net.new (stocks : List Int) : Net := ⟨stocks.map Site.fresh, [], 0⟩
def okStock (n : Int) : Bool := decide (0 ≤ n) && decide (n ≤ 1099511627776)
def okNew (l : List Int) : Bool := decide (1 ≤ l.length) && decide (l.length ≤ 8) && l.all okStock

namespace Net
def setSite (N : Net) (i : Nat) (s : Site) : Net := { N with sites := N.sites.set i s }
def send (N : Net) (src dst kind tx n : Int) : Net := if N.mail.length < 1024 then { N with mail := N.mail ++ [⟨src, dst, kind, tx, n⟩] } else N
def tell1 (src kind tx : Int) (but : Int → Bool) (N : Net) (p : Move) : Net := if but p.site then N else N.send src p.site kind tx (if kind = 1 then p.change else 0)
def tell (N : Net) (src kind tx : Int) (parts : List Move) (but : Int → Bool) : Net := parts.foldl (tell1 src kind tx but) N
def reply (N : Net) (m : Mail) (kind : Int) : Net := N.send m.dst m.src kind m.tx 0
end Net

def sumIf (neg : Bool) : List (Int × (Int × Int)) → Int
  | [] => 0
  | p :: r => (if decide (p.2.2 < 0) = neg then p.2.2 else 0) + sumIf neg r
def Site.possible (s : Site) (change : Int) : Bool :=
  if change < 0 then decide (0 ≤ s.stock + change + sumIf true s.promised) else decide (s.stock + change + sumIf false s.promised ≤ 1099511627776)
def Deal.has (d : Deal) (site : Int) : Bool := d.parts.any fun p => decide (p.site = site)
def Deal.hear (d : Deal) (site : Int) : Deal := if d.has site then { d with done := AL.put site () d.done } else d
def Deal.full (d : Deal) : Bool := decide (d.done.length = d.parts.length)
def nobody (_ : Int) : Bool := false

namespace Net
def asked (N : Net) (i : Nat) (s : Site) (m : Mail) : Net :=
  if AL.has m.tx s.promised then N.reply m 2
  else if AL.has m.tx s.dropped then N.reply m 3
  else if AL.has m.tx s.kept then N
  else if s.possible m.n then (N.setSite i { s with promised := AL.put m.tx (m.src, m.n) s.promised }).reply m 2
  else (N.setSite i { s with dropped := AL.put m.tx () s.dropped }).reply m 3
def remind (N : Net) (s : Site) (m : Mail) : Net :=
  match AL.get? m.tx s.granted with
  | none => N.reply m 5
  | some d => if AL.has m.src d.done then N else N.reply m 4
def agreed (N : Net) (i : Nat) (s : Site) (m : Mail) : Net :=
  match AL.get? m.tx s.opened with
  | none => N.remind s m
  | some d =>
    if (d.hear m.src).full then (N.setSite i { s with opened := AL.del m.tx s.opened, granted := AL.put m.tx ⟨d.parts, []⟩ s.granted }).tell m.dst 4 m.tx d.parts nobody
    else N.setSite i { s with opened := AL.put m.tx (d.hear m.src) s.opened }
def refused (N : Net) (i : Nat) (s : Site) (m : Mail) : Net :=
  match AL.get? m.tx s.opened with
  | none => N
  | some d => (N.setSite i { s with opened := AL.del m.tx s.opened }).tell m.dst 5 m.tx d.parts (fun x => decide (x = m.src))
def committed (N : Net) (i : Nat) (s : Site) (m : Mail) : Net :=
  match AL.get? m.tx s.promised with
  | some p => (N.setSite i { s with stock := s.stock + p.2, promised := AL.del m.tx s.promised, kept := AL.put m.tx () s.kept }).reply m 6
  | none => if AL.has m.tx s.kept then N.reply m 6 else N
def aborted (N : Net) (i : Nat) (s : Site) (m : Mail) : Net :=
  if AL.has m.tx s.promised then N.setSite i { s with promised := AL.del m.tx s.promised, dropped := AL.put m.tx () s.dropped } else N
def answered (N : Net) (i : Nat) (s : Site) (m : Mail) : Net :=
  match AL.get? m.tx s.granted with
  | none => N
  | some d =>
    if (d.hear m.src).full then N.setSite i { s with granted := AL.del m.tx s.granted }
    else N.setSite i { s with granted := AL.put m.tx (d.hear m.src) s.granted }
def wondered (N : Net) (s : Site) (m : Mail) : Net :=
  if AL.has m.tx s.granted then N.reply m 4 else if AL.has m.tx s.opened then N else N.reply m 5

def handleAt (N : Net) (i : Nat) (s : Site) (m : Mail) : Net :=
  if s.down then N
  else if m.kind = 1 then N.asked i s m
  else if m.kind = 2 then N.agreed i s m
  else if m.kind = 3 then N.refused i s m
  else if m.kind = 4 then N.committed i s m
  else if m.kind = 5 then N.aborted i s m
  else if m.kind = 6 then N.answered i s m
  else N.wondered s m
def handle (N : Net) (m : Mail) : Net :=
  match N.sites[m.dst.toNat]? with
  | none => N
  | some s => N.handleAt m.dst.toNat s m

/-- Is k the position of a letter? -/
def isLetter (N : Net) (k : Int) : Bool := decide (0 ≤ k) && decide (k < N.mail.length)
def isSite (N : Net) (k : Int) : Bool := decide (0 ≤ k) && decide (k < N.sites.length)
def deliver (N : Net) (k : Int) : Net × Int :=
  if N.isLetter k then
    match N.mail[k.toNat]? with
    | none => (N, 3)
    | some m => (({ N with mail := N.mail.eraseIdx k.toNat }).handle m, 0)
  else (N, 3)
def repeat_ (N : Net) (k : Int) : Net × Int :=
  if N.isLetter k then
    match N.mail[k.toNat]? with
    | none => (N, 3)
    | some m => (N.handle m, 0)
  else (N, 3)
def lose (N : Net) (k : Int) : Net × Int :=
  if N.isLetter k then ({ N with mail := N.mail.eraseIdx k.toNat }, 0) else (N, 3)

/-- The site k, or the error of a call there. -/
def awake (N : Net) (k : Int) : Option Site × Int :=
  if N.isSite k then
    match N.sites[k.toNat]? with
    | none => (none, 3)
    | some s => if s.down then (none, 7) else (some s, 0)
  else (none, 3)

def validGo (n : Int) : List Move → List Int → Int → Bool
  | [], _, sum => decide (sum = 0)
  | p :: r, seen, sum =>
    if decide (0 ≤ p.site) && decide (p.site ≤ n - 1) && !(seen.any fun x => decide (x = p.site)) && !decide (p.change = 0) && (decide (-1099511627776 ≤ p.change) && decide (p.change ≤ 1099511627776))
    then validGo n r (p.site :: seen) (sum + p.change) else false
def valid (N : Net) (parts : List Move) : Bool := decide (0 < parts.length) && validGo N.sites.length parts [] 0

def begin_ (N : Net) (k : Int) (parts : List Move) : Net × Int × Int :=
  match N.awake k with
  | (none, e) => (N, 0, e)
  | (some s, _) =>
    if !N.valid parts then (N, 0, 2)
    else if 256 ≤ N.count then (N, 0, 5)
    else
      let N1 : Net := { N with count := N.count + 1 }
      let N2 := N1.setSite k.toNat { s with opened := AL.put (N.count + 1) ⟨parts, []⟩ s.opened }
      (N2.tell k 1 (N.count + 1) parts nobody, N.count + 1, 0)
def cancel (N : Net) (k tx : Int) : Net × Int :=
  match N.awake k with
  | (none, e) => (N, e)
  | (some s, _) =>
    match AL.get? tx s.opened with
    | none => (N, 6)
    | some d => ((N.setSite k.toNat { s with opened := AL.del tx s.opened }).tell k 5 tx d.parts nobody, 0)
def tickDeal (k kind : Int) (N : Net) (p : Int × Deal) : Net := N.tell k kind p.1 p.2.parts (fun x => AL.has x p.2.done)
def tickProm (k : Int) (N : Net) (p : Int × (Int × Int)) : Net := N.send k p.2.1 7 p.1 0
def tick (N : Net) (k : Int) : Net × Int :=
  match N.awake k with
  | (none, e) => (N, e)
  | (some s, _) => (s.promised.foldl (tickProm k) (s.granted.foldl (tickDeal k 4) (s.opened.foldl (tickDeal k 1) N)), 0)
def crash (N : Net) (k : Int) : Net × Int :=
  match N.awake k with
  | (none, e) => (N, e)
  | (some s, _) => (N.setSite k.toNat { s with down := true, opened := [] }, 0)
def start (N : Net) (k : Int) : Net × Int :=
  if N.isSite k then
    match N.sites[k.toNat]? with
    | none => (N, 3)
    | some s => if s.down then (N.setSite k.toNat { s with down := false }, 0) else (N, 7)
  else (N, 3)
def stock (N : Net) (k : Int) : Int × Int :=
  if N.isSite k then
    match N.sites[k.toNat]? with
    | none => (0, 3)
    | some s => (s.stock, 0)
  else (0, 3)
def up (N : Net) (k : Int) : Bool := decide ((N.awake k).2 = 0)
def outcome (N : Net) (k tx : Int) : Int :=
  if N.isSite k then
    match N.sites[k.toNat]? with
    | none => 0
    | some s => if AL.has tx s.promised then 1 else if AL.has tx s.kept then 2 else if AL.has tx s.dropped then 3 else 0
  else 0
def settled (N : Net) : Bool := decide (N.mail.length = 0) && N.sites.all fun s => decide (s.opened.length + s.granted.length + s.promised.length = 0)
end Net

/-! ### awake: a few results, reckoned -/
def pumped : Nat → Net → Net
  | 0, N => N
  | n + 1, N => if 0 < N.mail.length then pumped n (N.deliver 0).1 else N
def awakeNet : Net := pumped 20 ((Net.new [10, 0]).begin_ 0 [⟨0, -4⟩, ⟨1, 4⟩]).1
theorem awake_begin : ((Net.new [10, 0]).begin_ 0 [⟨0, -4⟩, ⟨1, 4⟩]).2 = (1, 0) := by decide
theorem awake_stock0 : awakeNet.stock 0 = (6, 0) := by decide
theorem awake_stock1 : awakeNet.stock 1 = (4, 0) := by decide
theorem awake_settled : awakeNet.settled = true := by decide

end Go.Proofs.Ytfmfgckfeojfcaa
