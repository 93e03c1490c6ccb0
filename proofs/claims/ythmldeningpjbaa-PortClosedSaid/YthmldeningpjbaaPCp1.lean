/- What the functions of layer 9 compute, further: ports, plans, and what plans do. -/
import Derived.Test.YthmldeningpjbaaPCp0
set_option linter.unusedVariables false
set_option linter.unusedSimpArgs false
namespace Go.Proofs.Ythmldeningpjbaa.Pt
open Sp

structure Brt where
  depth : Int
  path : List Int
deriving DecidableEq, Inhabited
structure Prt where
  chs : List Chn
  bts : List Brt
  tugs : Int
deriving DecidableEq, Inhabited
structure Pln where
  hours : Int
  calls : List Cal
  swps : List Swp
deriving DecidableEq, Inhabited
structure Stt where
  brash : List Int
  busy : List Bool
deriving DecidableEq, Inhabited

/-- a list of numbers at a number, and with another number there -/
def getI (l : List Int) (i : Int) : Int := l.getD i.toNat 0
def setI (l : List Int) (i : Int) (x : Int) : List Int := l.set i.toNat x
theorem setI_length (l : List Int) (i x : Int) : (setI l i x).length = l.length := by simp [setI]
def ch (p : Prt) (i : Int) : Chn := p.chs.getD i.toNat default
def bt (p : Prt) (i : Int) : Brt := p.bts.getD i.toNat default

def chOk (c : Chn) : Bool := within c.grow 0 100 && within c.frost 0 20 && within c.clear 1 200
/-- the first k channels of a path are channels, and each comes once -/
def pathOk (n : Int) (l : List Int) : Nat → Bool
  | 0 => true
  | k + 1 => pathOk n l k && (within (l.getD k 0) 0 (n - 1) && !(l.take k).contains (l.getD k 0))
def btOk (n : Int) (b : Brt) : Bool := within b.depth 10 3000 && (!decide (b.path.length = 0) && pathOk n b.path b.path.length)
def checkP (p : Prt) : Int :=
  if (within p.chs.length 1 6 && within p.bts.length 1 4) = false then 2
  else if within p.tugs 0 20 = false then 100
  else if p.chs.all chOk = false then 100
  else if p.bts.all (btOk p.chs.length) = false then 100 else 0

def callE (p : Prt) (hours : Int) (c : Cal) (before : Int) : Int :=
  if (within c.berth 0 ((p.bts.length : Int) - 1) && (within c.most 0 1000000 && within c.tugs 0 20)) = false then 1
  else if within c.draught 10 (bt p c.berth).depth = false then 100
  else if within c.hour 0 (hours - 1) = false then 12
  else if c.hour < before then 11 else 0
def callsE (p : Prt) (hours : Int) : Int → List Cal → Int
  | _, [] => 0
  | before, c :: l => if callE p hours c before ≠ 0 then callE p hours c before else callsE p hours c.hour l
def swpE (p : Prt) (hours : Int) (s : Swp) : Int :=
  if (within s.channel 0 ((p.chs.length : Int) - 1) && within s.tugs 1 20) = false then 1
  else if within s.hour 0 (hours - 1) = false then 12 else 0
def swpsE (p : Prt) (hours : Int) : List Swp → Int
  | [] => 0
  | s :: l => if swpE p hours s ≠ 0 then swpE p hours s else swpsE p hours l

/-- which channels calls go through, hour by hour -/
def hitsOf (p : Prt) (c : Cal) : List (Int × Int) := (bt p c.berth).path.map fun n => (c.hour, n)
/-- tugs, whether a channel is gone through twice, what is gone through: after some more channels of a call's path -/
structure Tly where
  tugs : List Int
  twice : List Bool
  hits : List (Int × Int)
def hit1 (h : Int) (t : Tly) (n : Int) : Tly := ⟨t.tugs, t.twice.set h.toNat (t.twice.getD h.toNat false || decide (1 < (t.hits.count (h, n) + 1))), (h, n) :: t.hits⟩
def tlyCall (p : Prt) (t : Tly) (c : Cal) : Tly := (bt p c.berth).path.foldl (hit1 c.hour) ⟨setI t.tugs c.hour (getI t.tugs c.hour + c.tugs), t.twice, t.hits⟩
def tly0 (hours : Nat) : Tly := ⟨List.replicate hours 0, List.replicate hours false, []⟩
def tlyCalls (p : Prt) (hours : Nat) (l : List Cal) : Tly := l.foldl (tlyCall p) (tly0 hours)
def addSwp (t : List Int) (s : Swp) : List Int := setI t s.hour (getI t s.hour + s.tugs)
/-- the error of the hours from k on -/
def finE (tg : Int) (ts : List Int) (tw : List Bool) : Nat → Nat → Int
  | _, 0 => 0
  | k, n + 1 => if tw.getD k false then 10 else if tg < ts.getD k 0 then 9 else finE tg ts tw (k + 1) n
def checkL (p : Prt) (l : Pln) : Int :=
  if checkP p ≠ 0 then checkP p
  else if 60 < l.calls.length ∨ 200 < l.swps.length then 2
  else if within l.hours 1 100 = false then 6
  else if callsE p l.hours 0 l.calls ≠ 0 then callsE p l.hours 0 l.calls
  else if swpsE p l.hours l.swps ≠ 0 then swpsE p l.hours l.swps
  else finE p.tugs (l.swps.foldl addSwp (tlyCalls p l.hours.toNat l.calls).tugs) (tlyCalls p l.hours.toNat l.calls).twice 0 l.hours.toNat

/-- the error of a port, a state and a plan -/
def startE (p : Prt) (s : Stt) (l : Pln) : Int :=
  if checkL p l ≠ 0 then checkL p l
  else if s.brash.length ≠ p.chs.length ∨ s.busy.length ≠ p.bts.length ∨ s.brash.any (fun n => !within n 0 1000000) = true then 1 else 0

/-- what an hour does -/
def swp1 (p : Prt) (h : Int) (b : List Int) (s : Swp) : List Int := if s.hour = h then setI b s.channel (max 0 (getI b s.channel - s.tugs * (ch p s.channel).clear)) else b
def swpN (p : Prt) (h : Int) (l : List Swp) (b : List Int) : List Int := l.foldl (swp1 p h) b
def grow1 (p : Prt) (b : List Int) (n : Int) : List Int := setI b n (getI b n + (ch p n).grow)
def growN (p : Prt) (path : List Int) (b : List Int) : List Int := path.foldl (grow1 p) b
/-- the calls of an hour, from the i-th on: the index of the first one that cannot, the error, the state -/
def callsN (p : Prt) (h : Int) : List Cal → Nat → Stt → Nat × Int × Stt
  | [], i, s => (i, 0, s)
  | c :: l, i, s =>
    if c.hour ≠ h then callsN p h l (i + 1) s
    else if s.busy.getD c.berth.toNat false ≠ c.out then (i, 9, s)
    else if (bt p c.berth).path.any (fun n => decide (c.most < getI s.brash n)) = true then (i, 8, s)
    else callsN p h l (i + 1) ⟨growN p (bt p c.berth).path s.brash, s.busy.set c.berth.toNat (!c.out)⟩
def frostN (p : Prt) (b : List Int) : Nat → List Int
  | 0 => b
  | k + 1 => setI (frostN p b k) k (getI (frostN p b k) k + (ch p k).frost)
def frostL (p : Prt) (b : List Int) : List Int := frostN p b p.chs.length
def hourR (p : Prt) (l : Pln) (h : Nat) (s : Stt) : Nat × Int × Stt := callsN p h l.calls 0 ⟨swpN p h l.swps s.brash, s.busy⟩
def hourS (p : Prt) (l : Pln) (h : Nat) (s : Stt) : Stt := ⟨frostL p (hourR p l h s).2.2.brash, (hourR p l h s).2.2.busy⟩
/-- the state at the beginning of hour k, if nothing is refused before -/
def stN (p : Prt) (l : Pln) (s : Stt) : Nat → Stt
  | 0 => s
  | k + 1 => hourS p l k (stN p l s k)
/-- n more hours from hour k on: the index, and the error -/
def runF (p : Prt) (l : Pln) (s : Stt) : Nat → Nat → Nat × Int
  | _, 0 => (l.calls.length, 0)
  | k, n + 1 => if (hourR p l k (stN p l s k)).2.1 ≠ 0 then ((hourR p l k (stN p l s k)).1, (hourR p l k (stN p l s k)).2.1) else runF p l s (k + 1) n
def runR (p : Prt) (l : Pln) (s : Stt) : Nat × Int := runF p l s 0 l.hours.toNat

/-- the maps of a channel -/
def mapsH (p : Prt) (l : Pln) (c : Int) (h : Nat) : List Mp :=
  (l.swps.filter fun s => decide (s.hour = (h : Int)) && decide (s.channel = c)).map (fun s => ⟨-s.tugs * (ch p c).clear, 0, NL⟩)
  ++ ((l.calls.filter fun x => decide (x.hour = (h : Int)) && (bt p x.berth).path.contains c).map (fun x => ⟨(ch p c).grow, (ch p c).grow, x.most⟩)
  ++ [⟨(ch p c).frost, (ch p c).frost, NL⟩])
def mapsS (p : Prt) (l : Pln) (c : Int) : List Mp := (List.range l.hours.toNat).flatMap (mapsH p l c)
def id1 : Mp := ⟨0, 0, NL⟩
def foldS (p : Prt) (l : Pln) (c : Int) : Mp := (mapsS p l c).foldl join1 id1
def foldE (p : Prt) (l : Pln) (c : Int) : Int := if checkL p l ≠ 0 then checkL p l else if within c 0 ((p.chs.length : Int) - 1) = false then 1 else 0

/-- in turns: the calls of a berth -/
def turnsL : List Bool → Bool
  | [] => true
  | [_] => true
  | a :: b :: l => decide (a ≠ b) && turnsL (b :: l)
def outsOf (l : Pln) (b : Int) : List Bool := (l.calls.filter fun c => decide (c.berth = b)).map (·.out)
def turnsB (l : Pln) (b : Int) : Bool := turnsL (outsOf l b) && decide ((outsOf l b).length % 2 = 0)
def turnsN (l : Pln) : Nat → Bool
  | 0 => true
  | k + 1 => turnsN l k && turnsB l k
def turns (p : Prt) (l : Pln) : Bool := turnsN l p.bts.length

def staysBad (m : Mp) : Bool := decide (m.most ≠ NL) && (decide (0 < m.add) || decide (m.most < m.floor))
def folds (p : Prt) (l : Pln) : List Mp := (List.range p.chs.length).map fun (c : Nat) => foldS p l c
def staysE (p : Prt) (l : Pln) : Int :=
  if checkL p l ≠ 0 then checkL p l else if turns p l = false then 9 else if (folds p l).any staysBad = true then 4 else 0
def staysV (p : Prt) (l : Pln) : List Int := if staysE p l = 0 then (folds p l).map (·.most) else []

def keepsV (p : Prt) (s : Stt) (l : Pln) : Bool :=
  decide (startE p s l = 0) && (decide ((runR p l s).2 = 0) && (decide ((stN p l s l.hours.toNat).busy = s.busy) && (List.range p.chs.length).all (fun i => decide ((stN p l s l.hours.toNat).brash.getD i 0 ≤ s.brash.getD i 0))))

def rounds (m : Mp) : Int :=
  if m.most = NL ∨ (m.add ≤ 0 ∧ max m.add m.floor ≤ m.most) then -1
  else if m.most < 0 then 0
  else if m.most < max m.add m.floor then 1
  else 2 + (m.most - max m.add m.floor).tdiv m.add
/-- the least number of rounds, and the channel, among the first k maps -/
def wornN (l : List Mp) : Nat → Int × Int
  | 0 => (-1, 0)
  | k + 1 => let n := rounds (l.getD k default); if 0 ≤ n ∧ ((wornN l k).1 < 0 ∨ n < (wornN l k).1) then (n, (k : Int)) else wornN l k
def wornR (p : Prt) (l : Pln) : Int × Int := wornN (folds p l) p.chs.length
def wornE (p : Prt) (l : Pln) : Int := if checkL p l ≠ 0 then checkL p l else if (wornR p l).1 < 0 then 4 else 0
end Go.Proofs.Ythmldeningpjbaa.Pt
/- What the functions of layer 9 compute, further: berthings. -/
namespace Go.Proofs.Ythmldeningpjbaa.Pt
open Sp

def vstOk (v : Vst) : Bool := within v.arr 0 1000 && (within v.last v.arr 2000 && (within v.stay 1 100 && within v.dra 10 3000))
def askedE (p : Prt) (l : List Vst) : Int := if checkP p ≠ 0 then checkP p else if 5 < l.length then 2 else if l.all vstOk = false then 1 else 0

/-- compares places, and lists of places -/
def cmp1 (a b : Plc) : Int := if a.berth ≠ b.berth then a.berth - b.berth else a.start - b.start
def cmpPl : List Plc → List Plc → Int
  | [], [] => 0
  | [], _ :: _ => -1
  | _ :: _, [] => 1
  | a :: l, b :: m => if cmp1 a b ≠ 0 then cmp1 a b else cmpPl l m

/-- the search: what has been found, and the places tried -/
structure Bst where
  least : Int
  found : List Plc
  places : List Plc
deriving DecidableEq, Inhabited
def bestLeaf (waiting : Int) (s : Bst) : Bst := if s.least < 0 ∨ waiting < s.least ∨ cmpPl s.places s.found < 0 then ⟨waiting, s.places, s.places⟩ else s
def vs (l : List Vst) (i : Nat) : Vst := l.getD i default
/-- n: how many visits are not placed -/
def seekS (p : Prt) (l : List Vst) : Nat → Int → List Int → List Bool → Bst → Bst
  | 0, waiting, _, _, s => if 0 ≤ s.least ∧ s.least < waiting then s else bestLeaf waiting s
  | n + 1, waiting, free, done, s =>
    if 0 ≤ s.least ∧ s.least < waiting then s else
    (List.range l.length).foldl (fun s i =>
      if done.getD i false then s else
      (List.range p.bts.length).foldl (fun s b =>
        if (p.bts.getD b default).depth < (vs l i).dra ∨ (vs l i).last < max (vs l i).arr (free.getD b 0) then s
        else seekS p l n (waiting + max (vs l i).arr (free.getD b 0) - (vs l i).arr) (free.set b (max (vs l i).arr (free.getD b 0) + (vs l i).stay)) (done.set i true)
          ⟨s.least, s.found, s.places.set i ⟨b, max (vs l i).arr (free.getD b 0)⟩⟩) s) s
def bestS (p : Prt) (l : List Vst) : Bst := seekS p l l.length 0 (List.replicate p.bts.length 0) (List.replicate l.length false) ⟨-1, [], List.replicate l.length ⟨0, 0⟩⟩
def bestE (p : Prt) (l : List Vst) : Int := if askedE p l ≠ 0 then askedE p l else if (bestS p l).least < 0 then 4 else 0
def bestN (p : Prt) (l : List Vst) : Int := if bestE p l = 0 then (bestS p l).least else 0
def bestV (p : Prt) (l : List Vst) : List Plc := if bestE p l = 0 then (bestS p l).found else []
end Go.Proofs.Ythmldeningpjbaa.Pt
/- Plain law of layer 9: what a plan does to a channel is what its map says. No program is named here. -/
namespace Go.Proofs.Ythmldeningpjbaa.Pt
open Sp

/-- a map lets a brash through -/
def limOk (m : Mp) (b : Int) : Prop := m.most = NL ∨ b ≤ m.most
def ap (m : Mp) (b : Int) : Int := max (b + m.add) m.floor
/-- a map of something that changes a brash: its Most is none, or small; Add is not far below 0 -/
structure Gm (m : Mp) : Prop where
  add : -4000 ≤ m.add ∧ m.add ≤ 100
  flo : 0 ≤ m.floor ∧ m.floor ≤ 100
  lo : 0 ≤ m.most
  hi : m.most = NL ∨ m.most ≤ 1000000
/-- a map that was joined of at most k of these -/
structure Jm (k : Nat) (m : Mp) : Prop where
  add : -(4000 * (k : Int)) ≤ m.add ∧ m.add ≤ 100 * k
  flo : 0 ≤ m.floor ∧ m.floor ≤ 100 * k
  lo : -1 ≤ m.most
  hi : m.most ≤ NL
  lt : m.most = NL ∨ m.most ≤ 1000000 + 4000 * k

theorem join_sem {k : Nat} {a m : Mp} (ha : Jm k a) (hm : Gm m) (hk : k ≤ 800) {b : Int} (hb : 0 ≤ b) :
    (limOk (join1 a m) b ↔ limOk a b ∧ limOk m (ap a b)) ∧ ap (join1 a m) b = ap m (ap a b) ∧ Jm (k + 1) (join1 a m) := by
  obtain ⟨⟨a1, a1'⟩, ⟨a2, a2'⟩, a3, a4, a5⟩ := ha
  obtain ⟨⟨m1, m1'⟩, ⟨m2, m2'⟩, m3, m4⟩ := hm
  have h := joinL_cases a m
  refine ⟨?_, ?_, ?_⟩
  · simp only [limOk, ap, join1, NL] at *
    omega
  · simp only [ap, join1]
    omega
  · refine ⟨?_, ?_, ?_, ?_, ?_⟩ <;> simp only [join1, NL] at * <;> omega

def seqOk : List Mp → Int → Prop
  | [], _ => True
  | m :: l, b => limOk m b ∧ seqOk l (ap m b)
def seqAp (l : List Mp) (b : Int) : Int := l.foldl (fun b m => ap m b) b
theorem ap_ge {m : Mp} (hm : Gm m) (b : Int) : 0 ≤ ap m b := by have := hm.flo.1; simp only [ap]; omega
theorem seqAp_append (l l' : List Mp) (b : Int) : seqAp (l ++ l') b = seqAp l' (seqAp l b) := by simp [seqAp]
theorem seqOk_append (l l' : List Mp) (b : Int) : seqOk (l ++ l') b ↔ seqOk l b ∧ seqOk l' (seqAp l b) := by
  induction l generalizing b with
  | nil => simp [seqOk, seqAp]
  | cons m l ih =>
    rw [List.cons_append, seqOk, seqOk, ih, and_assoc]
    rfl
theorem seqAp_ge {l : List Mp} (hl : ∀ m ∈ l, Gm m) {b : Int} (hb : 0 ≤ b) : 0 ≤ seqAp l b := by
  induction l generalizing b with
  | nil => exact hb
  | cons m l ih => exact ih (fun x hx => hl x (by simp [hx])) (ap_ge (hl m (by simp)) b)
theorem fold_sem {l : List Mp} (hl : ∀ m ∈ l, Gm m) : ∀ {k : Nat} {a : Mp}, Jm k a → k + l.length ≤ 800 → ∀ {b : Int}, 0 ≤ b →
    (limOk (l.foldl join1 a) b ↔ limOk a b ∧ seqOk l (ap a b)) ∧ ap (l.foldl join1 a) b = seqAp l (ap a b) := by
  induction l with
  | nil => intro k a _ _ b _; simp [seqOk, seqAp]
  | cons m l ih =>
    intro k a ha hk b hb
    simp only [List.length_cons] at hk
    obtain ⟨h1, h2, h3⟩ := join_sem ha (hl m (by simp)) (by omega) hb
    obtain ⟨h4, h5⟩ := ih (fun x hx => hl x (by simp [hx])) h3 (by omega) hb
    rw [List.foldl_cons, h4, h1, h5, h2]
    refine ⟨?_, rfl⟩
    simp only [seqOk]
    constructor
    · rintro ⟨⟨x, y⟩, z⟩; exact ⟨x, y, z⟩
    · rintro ⟨x, y, z⟩; exact ⟨⟨x, y⟩, z⟩
theorem fold_jm {l : List Mp} (hl : ∀ m ∈ l, Gm m) : ∀ {k : Nat} {a : Mp}, Jm k a → k + l.length ≤ 800 → Jm (k + l.length) (l.foldl join1 a) := by
  induction l with
  | nil => intro k a ha _; exact ha
  | cons m l ih =>
    intro k a ha hk
    simp only [List.length_cons] at hk
    obtain ⟨_, _, h3⟩ := join_sem ha (hl m (by simp)) (by omega) (Int.le_refl 0)
    have := ih (fun x hx => hl x (by simp [hx])) h3 (by omega)
    rw [List.foldl_cons, List.length_cons, show k + (l.length + 1) = k + 1 + l.length from by omega]
    exact this
theorem id_jm : Jm 0 id1 := ⟨by decide, by decide, by decide, by decide, .inl rfl⟩
/-- joined from nothing -/
theorem fold_id {l : List Mp} (hl : ∀ m ∈ l, Gm m) (hk : l.length ≤ 800) {b : Int} (hb : 0 ≤ b) :
    (limOk (l.foldl join1 id1) b ↔ seqOk l b) ∧ ap (l.foldl join1 id1) b = seqAp l b := by
  obtain ⟨h1, h2⟩ := fold_sem hl id_jm (by omega) hb
  have e : ap id1 b = b := by simp only [ap, id1]; omega
  rw [e] at h1 h2
  exact ⟨by rw [h1]; simp [limOk, id1], h2⟩
end Go.Proofs.Ythmldeningpjbaa.Pt
/- Plain law of layer 9: a run of a plan, channel by channel. No program is named here. -/
namespace Go.Proofs.Ythmldeningpjbaa.Pt
open Sp

/-- what a right port and plan have -/
structure Val (p : Prt) (l : Pln) : Prop where
  nc : 1 ≤ p.chs.length ∧ p.chs.length ≤ 6
  nb : 1 ≤ p.bts.length ∧ p.bts.length ≤ 4
  h : 1 ≤ l.hours ∧ l.hours ≤ 100
  nx : l.calls.length ≤ 60 ∧ l.swps.length ≤ 200
  chf : ∀ c ∈ p.chs, 0 ≤ c.grow ∧ c.grow ≤ 100 ∧ 0 ≤ c.frost ∧ c.frost ≤ 20 ∧ 1 ≤ c.clear ∧ c.clear ≤ 200
  btf : ∀ b ∈ p.bts, b.path ≠ [] ∧ b.path.Nodup ∧ ∀ x ∈ b.path, 0 ≤ x ∧ x < p.chs.length
  ca : ∀ c ∈ l.calls, 0 ≤ c.berth ∧ c.berth < p.bts.length ∧ 0 ≤ c.most ∧ c.most ≤ 1000000 ∧ 0 ≤ c.hour ∧ c.hour < l.hours
  sw : ∀ s ∈ l.swps, 0 ≤ s.channel ∧ s.channel < p.chs.length ∧ 1 ≤ s.tugs ∧ s.tugs ≤ 20 ∧ 0 ≤ s.hour ∧ s.hour < l.hours

theorem ch_mem {p : Prt} {i : Int} (h0 : 0 ≤ i) (h1 : i < p.chs.length) : ch p i ∈ p.chs := by
  unfold ch
  have : i.toNat < p.chs.length := by omega
  rw [List.getD_eq_getElem?_getD, List.getElem?_eq_getElem this]
  exact List.getElem_mem _
theorem bt_mem {p : Prt} {i : Int} (h0 : 0 ≤ i) (h1 : i < p.bts.length) : bt p i ∈ p.bts := by
  unfold bt
  have : i.toNat < p.bts.length := by omega
  rw [List.getD_eq_getElem?_getD, List.getElem?_eq_getElem this]
  exact List.getElem_mem _
theorem getI_set {l : List Int} {i c x : Int} (hi : 0 ≤ i) (hc : 0 ≤ c) (hl : i < l.length) : getI (setI l i x) c = if i = c then x else getI l c := by
  unfold getI setI
  simp only [List.getD_eq_getElem?_getD, List.getElem?_set]
  by_cases e : i = c
  · subst e
    rw [if_pos rfl, if_pos (by omega), if_pos rfl]; rfl
  · rw [if_neg (by omega), if_neg e]

/-- the maps of sweeps, and of calls, of an hour, for a channel -/
def swMaps (p : Prt) (c h : Int) (l : List Swp) : List Mp := (l.filter fun s => decide (s.hour = h) && decide (s.channel = c)).map fun s => ⟨-s.tugs * (ch p c).clear, 0, NL⟩
def caMaps (p : Prt) (c h : Int) (l : List Cal) : List Mp := (l.filter fun x => decide (x.hour = h) && (bt p x.berth).path.contains c).map fun x => ⟨(ch p c).grow, (ch p c).grow, x.most⟩
theorem swpN_length (p : Prt) (h : Int) (l : List Swp) (b : List Int) : (swpN p h l b).length = b.length := by
  induction l generalizing b with
  | nil => rfl
  | cons s l ih =>
    have e : swpN p h (s :: l) b = swpN p h l (swp1 p h b s) := rfl
    rw [e, ih]; unfold swp1; split
    · exact setI_length _ _ _
    · rfl
theorem swp_sem {p : Prt} {h c : Int} (hc : 0 ≤ c) {l : List Swp} : ∀ {b : List Int}, (∀ s ∈ l, 0 ≤ s.channel ∧ s.channel < b.length) → getI (swpN p h l b) c = seqAp (swMaps p c h l) (getI b c) := by
  induction l with
  | nil => intro b _; rfl
  | cons s l ih =>
    intro b hl
    have e : swpN p h (s :: l) b = swpN p h l (swp1 p h b s) := rfl
    have hlen : (swp1 p h b s).length = b.length := by unfold swp1; split; exact setI_length _ _ _; rfl
    obtain ⟨s1, s2⟩ := hl s (by simp)
    rw [e, ih (fun x hx => by rw [hlen]; exact hl x (by simp [hx]))]
    have e2 : getI (swp1 p h b s) c = if s.hour = h ∧ s.channel = c then max 0 (getI b c - s.tugs * (ch p c).clear) else getI b c := by
      unfold swp1
      by_cases h1 : s.hour = h
      · rw [if_pos h1, getI_set s1 hc s2]
        by_cases h2 : s.channel = c
        · rw [if_pos h2, if_pos ⟨h1, h2⟩, h2]
        · rw [if_neg h2, if_neg (fun q => h2 q.2)]
      · rw [if_neg h1, if_neg (fun q => h1 q.1)]
    rw [e2]
    unfold swMaps
    by_cases h1 : s.hour = h ∧ s.channel = c
    · rw [if_pos h1, List.filter_cons_of_pos (by simp [h1.1, h1.2])]
      simp only [List.map_cons, seqAp, List.foldl_cons]
      congr 1
      simp only [ap]
      have : -s.tugs * (ch p c).clear = -(s.tugs * (ch p c).clear) := Int.neg_mul _ _
      rw [this]
      omega
    · rw [if_neg h1, List.filter_cons_of_neg (by simpa using h1)]

theorem growN_length (p : Prt) (l : List Int) (b : List Int) : (growN p l b).length = b.length := by
  induction l generalizing b with
  | nil => rfl
  | cons s l ih => exact (ih _).trans (setI_length _ _ _)
theorem grow_sem {p : Prt} {c : Int} (hc : 0 ≤ c) {l : List Int} : ∀ {b : List Int}, l.Nodup → (∀ s ∈ l, 0 ≤ s ∧ s < b.length) → getI (growN p l b) c = if c ∈ l then getI b c + (ch p c).grow else getI b c := by
  induction l with
  | nil => intro b _ _; simp [growN]
  | cons s l ih =>
    intro b hn hl
    obtain ⟨h1, h2⟩ := List.nodup_cons.1 hn
    obtain ⟨s1, s2⟩ := hl s (by simp)
    have e : growN p (s :: l) b = growN p l (grow1 p b s) := rfl
    have hlen : (grow1 p b s).length = b.length := setI_length _ _ _
    rw [e, ih h2 (fun x hx => by rw [hlen]; exact hl x (by simp [hx]))]
    have e2 : getI (grow1 p b s) c = if s = c then getI b c + (ch p c).grow else getI b c := by
      unfold grow1
      rw [getI_set s1 hc s2]
      by_cases q : s = c
      · rw [if_pos q, if_pos q, q]
      · rw [if_neg q, if_neg q]
    rw [e2]
    by_cases q : s = c
    · subst q; rw [if_neg h1, if_pos rfl, if_pos (by simp)]
    · rw [if_neg q]
      by_cases q2 : c ∈ l
      · rw [if_pos q2, if_pos (by simp [q2])]
      · rw [if_neg q2, if_neg (by simp [q2]; exact fun e => q e.symm)]

/-- berths are as the calls of an hour need them -/
def bOk (h : Int) : List Cal → List Bool → Prop
  | [], _ => True
  | c :: l, b => if c.hour ≠ h then bOk h l b else b.getD c.berth.toNat false = c.out ∧ bOk h l (b.set c.berth.toNat (!c.out))
def bAft (h : Int) : List Cal → List Bool → List Bool
  | [], b => b
  | c :: l, b => if c.hour ≠ h then bAft h l b else bAft h l (b.set c.berth.toNat (!c.out))

/-- a list of brash: long enough, and none below 0 -/
def bGe (n : Nat) (b : List Int) : Prop := b.length = n ∧ ∀ c : Int, 0 ≤ c → c < n → 0 ≤ getI b c
/-- the calls that are looked at are right -/
structure CalOk (p : Prt) (c : Cal) : Prop where
  b0 : 0 ≤ c.berth
  b1 : c.berth < p.bts.length
  nd : (bt p c.berth).path.Nodup
  rng : ∀ x ∈ (bt p c.berth).path, 0 ≤ x ∧ x < p.chs.length
  hm : c.most ≤ 1000000

theorem calls_sem {p : Prt} {h : Int} (hg : ∀ c : Int, 0 ≤ c → c < p.chs.length → 0 ≤ (ch p c).grow) {l : List Cal} : ∀ {i : Nat} {s : Stt}, (∀ c ∈ l, CalOk p c) → bGe p.chs.length s.brash → bOk h l s.busy →
    ((callsN p h l i s).2.1 = 0 ∧ (callsN p h l i s).1 = i + l.length ∧ bGe p.chs.length (callsN p h l i s).2.2.brash ∧ (callsN p h l i s).2.2.busy = bAft h l s.busy ∧
      ∀ c : Int, 0 ≤ c → c < p.chs.length → seqOk (caMaps p c h l) (getI s.brash c) ∧ getI (callsN p h l i s).2.2.brash c = seqAp (caMaps p c h l) (getI s.brash c)) ∨
    ((callsN p h l i s).2.1 = 8 ∧ i ≤ (callsN p h l i s).1 ∧ ∃ x c, l[(callsN p h l i s).1 - i]? = some x ∧ x.hour = h ∧ c ∈ (bt p x.berth).path ∧ ¬ seqOk (caMaps p c h l) (getI s.brash c)) := by
  induction l with
  | nil =>
    intro i s _ hb _
    exact .inl ⟨rfl, rfl, hb, rfl, fun c _ _ => ⟨trivial, rfl⟩⟩
  | cons x l ih =>
    intro i s hl hb ho
    have hx := hl x (by simp)
    have hl' : ∀ c ∈ l, CalOk p c := fun c hc => hl c (by simp [hc])
    have shift : ∀ {j : Nat} {y : Cal}, i + 1 ≤ j → l[j - (i + 1)]? = some y → (x :: l)[j - i]? = some y := by
      intro j y hj hy
      rw [show j - i = (j - (i + 1)) + 1 from by omega]; simpa using hy
    by_cases h1' : x.hour ≠ h
    · have h1 := h1'
      have e : callsN p h (x :: l) i s = callsN p h l (i + 1) s := by rw [callsN, if_pos h1]
      have eb : bAft h (x :: l) s.busy = bAft h l s.busy := by rw [bAft, if_pos h1]
      have em : ∀ c, caMaps p c h (x :: l) = caMaps p c h l := fun c => by unfold caMaps; rw [List.filter_cons_of_neg (by simp [h1])]
      rw [bOk, if_pos h1] at ho
      rw [e, eb]
      simp only [em]
      rcases ih (i := i + 1) hl' hb ho with ⟨q1, q2, q3⟩ | ⟨q1, q2, y, c, q3, q4⟩
      · exact .inl ⟨q1, by rw [q2, List.length_cons]; omega, q3⟩
      · exact .inr ⟨q1, by omega, y, c, shift q2 q3, q4⟩
    · have h1 : x.hour = h := by omega
      rw [bOk, if_neg (by simp [h1])] at ho
      have eb : bAft h (x :: l) s.busy = bAft h l (s.busy.set x.berth.toNat (!x.out)) := by rw [bAft, if_neg (by simp [h1])]
      have em : ∀ c, caMaps p c h (x :: l) = if c ∈ (bt p x.berth).path then ⟨(ch p c).grow, (ch p c).grow, x.most⟩ :: caMaps p c h l else caMaps p c h l := by
        intro c
        unfold caMaps
        by_cases q : c ∈ (bt p x.berth).path
        · rw [List.filter_cons_of_pos (by simp [h1, q]), if_pos q]; rfl
        · rw [List.filter_cons_of_neg (by simp [h1, q]), if_neg q]
      by_cases h2 : (bt p x.berth).path.any (fun n => decide (x.most < getI s.brash n)) = true
      · have e : callsN p h (x :: l) i s = (i, 8, s) := by rw [callsN, if_neg (by simp [h1]), if_neg (fun q => q ho.1), if_pos h2]
        rw [e]
        obtain ⟨c, hc, hd⟩ := List.any_eq_true.1 h2
        refine .inr ⟨rfl, Nat.le_refl _, x, c, by simp, h1, hc, ?_⟩
        rw [em, if_pos hc]
        intro hq
        have := hq.1
        have hd' : x.most < getI s.brash c := by simpa using hd
        have := hx.hm
        simp only [limOk, NL] at *
        omega
      · have e : callsN p h (x :: l) i s = callsN p h l (i + 1) ⟨growN p (bt p x.berth).path s.brash, s.busy.set x.berth.toNat (!x.out)⟩ := by
          rw [callsN, if_neg (by simp [h1]), if_neg (fun q => q ho.1), if_neg h2]
        have hgr : ∀ c : Int, 0 ≤ c → getI (growN p (bt p x.berth).path s.brash) c = if c ∈ (bt p x.berth).path then getI s.brash c + (ch p c).grow else getI s.brash c :=
          fun c hc => grow_sem hc hx.nd (fun y hy => by rw [hb.1]; exact hx.rng y hy)
        have hb' : bGe p.chs.length (growN p (bt p x.berth).path s.brash) := by
          refine ⟨by rw [growN_length]; exact hb.1, fun c c0 c1 => ?_⟩
          rw [hgr c c0]
          have := hb.2 c c0 c1
          have := hg c c0 c1
          split <;> omega
        have h2' : ∀ c ∈ (bt p x.berth).path, getI s.brash c ≤ x.most := by
          intro c hc
          have : ¬ x.most < getI s.brash c := fun hq => h2 (List.any_eq_true.2 ⟨c, hc, by simpa using hq⟩)
          omega
        have eo : ∀ c : Int, 0 ≤ c → c < p.chs.length → ((seqOk (caMaps p c h (x :: l)) (getI s.brash c) ↔ seqOk (caMaps p c h l) (getI (growN p (bt p x.berth).path s.brash) c)) ∧
            seqAp (caMaps p c h (x :: l)) (getI s.brash c) = seqAp (caMaps p c h l) (getI (growN p (bt p x.berth).path s.brash) c)) := by
          intro c c0 c1
          rw [em, hgr c c0]
          have := hb.2 c c0 c1
          by_cases q : c ∈ (bt p x.berth).path
          · rw [if_pos q, if_pos q]
            have ea : ap ⟨(ch p c).grow, (ch p c).grow, x.most⟩ (getI s.brash c) = getI s.brash c + (ch p c).grow := by simp only [ap]; omega
            refine ⟨?_, ?_⟩
            · simp only [seqOk, ea]
              exact ⟨fun z => z.2, fun z => ⟨.inr (h2' c q), z⟩⟩
            · simp only [seqAp, List.foldl_cons, ea]
          · rw [if_neg q, if_neg q]; exact ⟨Iff.rfl, rfl⟩
        rw [e, eb]
        rcases ih (i := i + 1) (s := ⟨growN p (bt p x.berth).path s.brash, s.busy.set x.berth.toNat (!x.out)⟩) hl' hb' ho.2 with ⟨q1, q2, q3, q4, q5⟩ | ⟨q1, q2, y, c, q3, q4, q5, q6⟩
        · refine .inl ⟨q1, by rw [q2, List.length_cons]; omega, q3, q4, fun c c0 c1 => ?_⟩
          obtain ⟨o1, o2⟩ := eo c c0 c1
          rw [o1, o2]
          exact q5 c c0 c1
        · refine .inr ⟨q1, by omega, y, c, shift q2 q3, q4, q5, ?_⟩
          have hy : y ∈ l := List.mem_of_getElem? q3
          obtain ⟨c0, c1⟩ := (hl' y hy).rng c q5
          rw [(eo c c0 c1).1]
          exact q6

theorem frostN_length (p : Prt) (b : List Int) : ∀ k, (frostN p b k).length = b.length
  | 0 => rfl
  | k + 1 => by rw [frostN, setI_length, frostN_length]
theorem frostN_sem {p : Prt} {b : List Int} {c : Nat} : ∀ {k : Nat}, k ≤ b.length → c < b.length → getI (frostN p b k) c = if c < k then getI b c + (ch p c).frost else getI b c
  | 0, _, _ => by rw [if_neg (by omega)]; rfl
  | k + 1, hk, hc => by
    rw [frostN, getI_set (by omega) (by omega) (by rw [frostN_length]; omega)]
    rw [frostN_sem (by omega) (by omega : k < b.length), frostN_sem (by omega) hc]
    by_cases e : k = c
    · subst e; rw [if_pos rfl, if_neg (by omega), if_pos (by omega)]
    · rw [if_neg (by omega)]
      by_cases q : c < k
      · rw [if_pos q, if_pos (by omega)]
      · rw [if_neg q, if_neg (by omega)]
theorem frost_sem {p : Prt} {b : List Int} (hb : b.length = p.chs.length) {c : Int} (c0 : 0 ≤ c) (c1 : c < p.chs.length) : getI (frostL p b) c = getI b c + (ch p c).frost := by
  obtain ⟨k, rfl⟩ : ∃ k : Nat, c = k := ⟨c.toNat, by omega⟩
  unfold frostL
  rw [frostN_sem (by omega) (by omega), if_pos (by omega)]

theorem mapsH_eq (p : Prt) (l : Pln) (c : Int) (h : Nat) : mapsH p l c h = swMaps p c h l.swps ++ (caMaps p c h l.calls ++ [⟨(ch p c).frost, (ch p c).frost, NL⟩]) := rfl
theorem Val.calOk {p : Prt} {l : Pln} (v : Val p l) : ∀ c ∈ l.calls, CalOk p c := by
  intro c hc
  have h1 := v.ca c hc
  have h2 := v.btf _ (bt_mem h1.1 h1.2.1)
  exact ⟨h1.1, h1.2.1, h2.2.1, h2.2.2, h1.2.2.2.1⟩
theorem Val.chn {p : Prt} {l : Pln} (v : Val p l) {c : Int} (c0 : 0 ≤ c) (c1 : c < p.chs.length) : 0 ≤ (ch p c).grow ∧ (ch p c).grow ≤ 100 ∧ 0 ≤ (ch p c).frost ∧ (ch p c).frost ≤ 20 ∧ 1 ≤ (ch p c).clear ∧ (ch p c).clear ≤ 200 := v.chf _ (ch_mem c0 c1)
theorem swMaps_gm {p : Prt} {l : Pln} (v : Val p l) {c : Int} (c0 : 0 ≤ c) (c1 : c < p.chs.length) (h : Int) : ∀ m ∈ swMaps p c h l.swps, Gm m := by
  intro m hm
  unfold swMaps at hm
  obtain ⟨s, hs, rfl⟩ := List.mem_map.1 hm
  have h1 := v.sw s (List.mem_filter.1 hs).1
  have h2 := v.chn c0 c1
  have h3 : s.tugs * (ch p c).clear ≤ 20 * 200 := Int.mul_le_mul (by omega) (by omega) (by omega) (by omega)
  have h4 : 0 ≤ s.tugs * (ch p c).clear := Int.mul_nonneg (by omega) (by omega)
  refine ⟨?_, ⟨Int.le_refl _, by simp only; omega⟩, by simp [NL], .inl rfl⟩
  simp only
  rw [Int.neg_mul]
  omega
theorem caMaps_gm {p : Prt} {l : Pln} (v : Val p l) {c : Int} (c0 : 0 ≤ c) (c1 : c < p.chs.length) (h : Int) : ∀ m ∈ caMaps p c h l.calls, Gm m := by
  intro m hm
  unfold caMaps at hm
  obtain ⟨x, hx, rfl⟩ := List.mem_map.1 hm
  have h1 := v.ca x (List.mem_filter.1 hx).1
  have h2 := v.chn c0 c1
  exact ⟨⟨by simp only; omega, by simp only; omega⟩, ⟨by simp only; omega, by simp only; omega⟩, by simp only; omega, .inr (by simp only; omega)⟩
theorem frMap_gm {p : Prt} {l : Pln} (v : Val p l) {c : Int} (c0 : 0 ≤ c) (c1 : c < p.chs.length) : Gm ⟨(ch p c).frost, (ch p c).frost, NL⟩ := by
  have h2 := v.chn c0 c1
  exact ⟨⟨by simp only; omega, by simp only; omega⟩, ⟨by simp only; omega, by simp only; omega⟩, by simp [NL], .inl rfl⟩
theorem mapsH_gm {p : Prt} {l : Pln} (v : Val p l) {c : Int} (c0 : 0 ≤ c) (c1 : c < p.chs.length) (h : Nat) : ∀ m ∈ mapsH p l c h, Gm m := by
  intro m hm
  rw [mapsH_eq] at hm
  rcases List.mem_append.1 hm with q | q
  · exact swMaps_gm v c0 c1 h m q
  rcases List.mem_append.1 q with q | q
  · exact caMaps_gm v c0 c1 h m q
  · rw [List.mem_singleton.1 q]; exact frMap_gm v c0 c1

/-- an hour, channel by channel -/
theorem hour_sem {p : Prt} {l : Pln} (v : Val p l) (h : Nat) {s : Stt} (hb : bGe p.chs.length s.brash) (ho : bOk h l.calls s.busy) :
    ((hourR p l h s).2.1 = 0 ∧ bGe p.chs.length (hourS p l h s).brash ∧ (hourS p l h s).busy = bAft h l.calls s.busy ∧
      ∀ c : Int, 0 ≤ c → c < p.chs.length → seqOk (mapsH p l c h) (getI s.brash c) ∧ getI (hourS p l h s).brash c = seqAp (mapsH p l c h) (getI s.brash c)) ∨
    ((hourR p l h s).2.1 = 8 ∧ ∃ x c, l.calls[(hourR p l h s).1]? = some x ∧ x.hour = h ∧ c ∈ (bt p x.berth).path ∧ ¬ seqOk (mapsH p l c h) (getI s.brash c)) := by
  have hsw : ∀ c : Int, 0 ≤ c → getI (swpN p h l.swps s.brash) c = seqAp (swMaps p c h l.swps) (getI s.brash c) :=
    fun c c0 => swp_sem c0 (fun x hx => by have := v.sw x hx; rw [hb.1]; omega)
  have hswk : ∀ c : Int, ∀ b, seqOk (swMaps p c h l.swps) b := by
    intro c b
    unfold swMaps
    generalize l.swps.filter _ = L
    induction L generalizing b with
    | nil => trivial
    | cons x L ih => exact ⟨.inl rfl, ih _⟩
  have hb1 : bGe p.chs.length (swpN p h l.swps s.brash) := by
    refine ⟨by rw [swpN_length]; exact hb.1, fun c c0 c1 => ?_⟩
    rw [hsw c c0]
    exact seqAp_ge (swMaps_gm v c0 c1 h) (hb.2 c c0 c1)
  rcases calls_sem (h := h) (fun c c0 c1 => (v.chn c0 c1).1) (i := 0) (s := ⟨swpN p h l.swps s.brash, s.busy⟩) v.calOk hb1 ho with ⟨q1, q2, q3, q4, q5⟩ | ⟨q1, q2, x, c, q3, q4, q5, q6⟩
  · have hf : ∀ c : Int, 0 ≤ c → c < p.chs.length → getI (hourS p l h s).brash c = getI (hourR p l h s).2.2.brash c + (ch p c).frost := fun c c0 c1 => frost_sem q3.1 c0 c1
    refine .inl ⟨q1, ⟨?_, fun c c0 c1 => ?_⟩, q4, fun c c0 c1 => ?_⟩
    · show (frostN _ _ _).length = _
      rw [frostN_length]; exact q3.1
    · rw [hf c c0 c1]
      have := (v.chn c0 c1).2.2.1
      have := q3.2 c c0 c1
      simp only [hourR]
      omega
    · obtain ⟨o1, o2⟩ := q5 c c0 c1
      simp only at o1 o2
      rw [hsw c c0] at o1 o2
      refine ⟨?_, ?_⟩
      · rw [mapsH_eq, seqOk_append, seqOk_append]
        exact ⟨hswk c _, o1, .inl rfl, trivial⟩
      · rw [hf c c0 c1, mapsH_eq, seqAp_append, seqAp_append]
        have e : getI (hourR p l h s).2.2.brash c = _ := o2
        rw [e]
        have h3 := q3.2 c c0 c1
        rw [o2] at h3
        generalize seqAp (caMaps p c h l.calls) (seqAp (swMaps p c h l.swps) (getI s.brash c)) = z at *
        simp only [seqAp, List.foldl_cons, List.foldl_nil, ap]
        omega
  · refine .inr ⟨q1, x, c, by simpa [hourR] using q3, q4, q5, fun hq => q6 ?_⟩
    obtain ⟨c0, c1⟩ := (v.calOk x (List.mem_of_getElem? q3)).rng c q5
    rw [mapsH_eq, seqOk_append, seqOk_append] at hq
    simp only
    rw [hsw c c0]
    exact hq.2.1

/-- the maps of n hours, from hour k on -/
def mapsF (p : Prt) (l : Pln) (c : Int) (k n : Nat) : List Mp := (List.range' k n).flatMap (mapsH p l c)
theorem mapsF_succ (p : Prt) (l : Pln) (c : Int) (k n : Nat) : mapsF p l c k (n + 1) = mapsH p l c k ++ mapsF p l c (k + 1) n := by simp [mapsF, List.range'_succ]
theorem mapsS_eq (p : Prt) (l : Pln) (c : Int) : mapsS p l c = mapsF p l c 0 l.hours.toNat := by unfold mapsS mapsF; rw [List.range_eq_range']
/-- berths, hour by hour -/
def bOkF (l : Pln) : Nat → Nat → List Bool → Prop
  | _, 0, _ => True
  | k, n + 1, b => bOk k l.calls b ∧ bOkF l (k + 1) n (bAft k l.calls b)
def bAftF (l : Pln) : Nat → Nat → List Bool → List Bool
  | _, 0, b => b
  | k, n + 1, b => bAftF l (k + 1) n (bAft k l.calls b)

theorem runF_sem {p : Prt} {l : Pln} (v : Val p l) (s : Stt) : ∀ {n k : Nat}, bGe p.chs.length (stN p l s k).brash → bOkF l k n (stN p l s k).busy →
    ((runF p l s k n).2 = 0 ∧ (runF p l s k n).1 = l.calls.length ∧ bGe p.chs.length (stN p l s (k + n)).brash ∧ (stN p l s (k + n)).busy = bAftF l k n (stN p l s k).busy ∧
      ∀ c : Int, 0 ≤ c → c < p.chs.length → seqOk (mapsF p l c k n) (getI (stN p l s k).brash c) ∧ getI (stN p l s (k + n)).brash c = seqAp (mapsF p l c k n) (getI (stN p l s k).brash c)) ∨
    ((runF p l s k n).2 = 8 ∧ ∃ x c, l.calls[(runF p l s k n).1]? = some x ∧ c ∈ (bt p x.berth).path ∧ ¬ seqOk (mapsF p l c k n) (getI (stN p l s k).brash c)) := by
  intro n
  induction n with
  | zero => intro k hb _; exact .inl ⟨rfl, rfl, hb, rfl, fun c _ _ => ⟨trivial, rfl⟩⟩
  | succ n ih =>
    intro k hb ho
    rcases hour_sem v k hb ho.1 with ⟨q1, q2, q3, q4⟩ | ⟨q1, x, c, q2, _, q3, q4⟩
    · have e : runF p l s k (n + 1) = runF p l s (k + 1) n := by rw [runF, if_neg (by rw [q1]; simp)]
      have e1 : stN p l s (k + 1) = hourS p l k (stN p l s k) := rfl
      have ho2 : bOkF l (k + 1) n (stN p l s (k + 1)).busy := by rw [e1, q3]; exact ho.2
      rcases ih (k := k + 1) q2 ho2 with ⟨r1, r2, r3, r4, r5⟩ | ⟨r1, x, c, r2, r3, r4⟩
      · rw [e, show k + (n + 1) = k + 1 + n from by omega]
        refine .inl ⟨r1, r2, r3, by rw [r4, e1, q3]; rfl, fun c c0 c1 => ?_⟩
        obtain ⟨o1, o2⟩ := q4 c c0 c1
        obtain ⟨o3, o4⟩ := r5 c c0 c1
        rw [mapsF_succ, seqOk_append, seqAp_append]
        rw [e1, o2] at o3 o4
        exact ⟨⟨o1, o3⟩, o4⟩
      · rw [e]
        refine .inr ⟨r1, x, c, r2, r3, fun hq => r4 ?_⟩
        obtain ⟨c0, c1⟩ := (v.calOk x (List.mem_of_getElem? r2)).rng c r3
        rw [mapsF_succ, seqOk_append] at hq
        rw [e1, (q4 c c0 c1).2]
        exact hq.2
    · have e : runF p l s k (n + 1) = ((hourR p l k (stN p l s k)).1, (hourR p l k (stN p l s k)).2.1) := by rw [runF, if_pos (by rw [q1]; simp)]
      rw [e]
      refine .inr ⟨q1, x, c, q2, q3, fun hq => q4 ?_⟩
      rw [mapsF_succ, seqOk_append] at hq
      exact hq.1

/-- berths are as a whole plan needs them -/
def busyOk (l : Pln) (b : List Bool) : Prop := bOkF l 0 l.hours.toNat b
def busyAft (l : Pln) (b : List Bool) : List Bool := bAftF l 0 l.hours.toNat b
theorem run_sem {p : Prt} {l : Pln} (v : Val p l) {s : Stt} (hb : bGe p.chs.length s.brash) (ho : busyOk l s.busy) :
    ((runR p l s).2 = 0 ∧ (runR p l s).1 = l.calls.length ∧ bGe p.chs.length (stN p l s l.hours.toNat).brash ∧ (stN p l s l.hours.toNat).busy = busyAft l s.busy ∧
      ∀ c : Int, 0 ≤ c → c < p.chs.length → seqOk (mapsS p l c) (getI s.brash c) ∧ getI (stN p l s l.hours.toNat).brash c = seqAp (mapsS p l c) (getI s.brash c)) ∨
    ((runR p l s).2 = 8 ∧ ∃ x c, l.calls[(runR p l s).1]? = some x ∧ c ∈ (bt p x.berth).path ∧ ¬ seqOk (mapsS p l c) (getI s.brash c)) := by
  have h := runF_sem v s (n := l.hours.toNat) (k := 0) hb ho
  rw [Nat.zero_add] at h
  simp only [mapsS_eq]
  exact h

/-! how many maps there are -/
theorem filt_two {T : Type} (f : T → Int) (k n : Int) (hn : 0 ≤ n) (l : List T) : (l.filter fun x => decide (f x = k)).length + (l.filter fun x => decide (k + 1 ≤ f x) && decide (f x < k + 1 + n)).length = (l.filter fun x => decide (k ≤ f x) && decide (f x < k + (n + 1))).length := by
  induction l with
  | nil => rfl
  | cons x l ih =>
    by_cases h1 : f x = k
    · rw [List.filter_cons_of_pos (by simp [h1]), List.filter_cons_of_neg (by simp; omega), List.filter_cons_of_pos (by simp; omega), List.length_cons, List.length_cons]; omega
    · by_cases h2 : k + 1 ≤ f x ∧ f x < k + 1 + n
      · rw [List.filter_cons_of_neg (by simp [h1]), List.filter_cons_of_pos (by simpa using h2), List.filter_cons_of_pos (by simp; omega), List.length_cons, List.length_cons]; omega
      · rw [List.filter_cons_of_neg (by simp [h1]), List.filter_cons_of_neg (by simpa using h2), List.filter_cons_of_neg (by simp; omega)]; exact ih
theorem filt_and_le {T : Type} (f g : T → Bool) (l : List T) : (l.filter fun x => f x && g x).length ≤ (l.filter f).length := by
  induction l with
  | nil => exact Nat.le_refl _
  | cons x l ih => cases h1 : f x <;> cases h2 : g x <;> simp [List.filter_cons, h1, h2] <;> omega
theorem mapsF_length (p : Prt) (l : Pln) (c : Int) : ∀ (n k : Nat), (mapsF p l c k n).length ≤ (l.swps.filter fun x => decide ((k : Int) ≤ x.hour) && decide (x.hour < (k : Int) + n)).length + (l.calls.filter fun x => decide ((k : Int) ≤ x.hour) && decide (x.hour < (k : Int) + n)).length + n
  | 0, k => by simp [mapsF]
  | n + 1, k => by
    have ih := mapsF_length p l c n (k + 1)
    have e1 := filt_two (fun x : Swp => x.hour) k n (by omega) l.swps
    have e2 := filt_two (fun x : Cal => x.hour) k n (by omega) l.calls
    have e3 := filt_and_le (fun x : Swp => decide (x.hour = (k : Int))) (fun x => decide (x.channel = c)) l.swps
    have e4 := filt_and_le (fun x : Cal => decide (x.hour = (k : Int))) (fun x => (bt p x.berth).path.contains c) l.calls
    rw [mapsF_succ, List.length_append, mapsH_eq, List.length_append, List.length_append]
    simp only [swMaps, caMaps, List.length_map, List.length_singleton]
    simp only [Int.natCast_add, Int.natCast_one] at *
    omega
theorem mapsS_length {p : Prt} {l : Pln} (v : Val p l) (c : Int) : (mapsS p l c).length ≤ 360 := by
  rw [mapsS_eq]
  have h := mapsF_length p l c l.hours.toNat 0
  have h1 := List.length_filter_le (fun x : Swp => decide (((0 : Nat) : Int) ≤ x.hour) && decide (x.hour < ((0 : Nat) : Int) + (l.hours.toNat : Nat))) l.swps
  have h2 := List.length_filter_le (fun x : Cal => decide (((0 : Nat) : Int) ≤ x.hour) && decide (x.hour < ((0 : Nat) : Int) + (l.hours.toNat : Nat))) l.calls
  have := v.nx
  have := v.h
  omega
theorem mapsS_gm {p : Prt} {l : Pln} (v : Val p l) {c : Int} (c0 : 0 ≤ c) (c1 : c < p.chs.length) : ∀ m ∈ mapsS p l c, Gm m := by
  intro m hm
  unfold mapsS at hm
  obtain ⟨h, _, h2⟩ := List.mem_flatMap.1 hm
  exact mapsH_gm v c0 c1 h m h2
theorem foldS_sem {p : Prt} {l : Pln} (v : Val p l) {c : Int} (c0 : 0 ≤ c) (c1 : c < p.chs.length) {b : Int} (hb : 0 ≤ b) :
    (limOk (foldS p l c) b ↔ seqOk (mapsS p l c) b) ∧ ap (foldS p l c) b = seqAp (mapsS p l c) b :=
  fold_id (mapsS_gm v c0 c1) (by have := mapsS_length v c; omega) hb
theorem foldS_jm {p : Prt} {l : Pln} (v : Val p l) {c : Int} (c0 : 0 ≤ c) (c1 : c < p.chs.length) : Jm 360 (foldS p l c) := by
  have h := fold_jm (mapsS_gm v c0 c1) id_jm (by have := mapsS_length v c; omega)
  have hl := mapsS_length v c
  obtain ⟨⟨a, a'⟩, ⟨b, b'⟩, d, e, f⟩ := h
  refine ⟨⟨?_, ?_⟩, ⟨b, ?_⟩, d, e, ?_⟩ <;> simp only [foldS] at * <;> omega
/-- a run, by the maps of the plan -/
theorem run_folds {p : Prt} {l : Pln} (v : Val p l) {s : Stt} (hb : bGe p.chs.length s.brash) (ho : busyOk l s.busy) :
    ((runR p l s).2 = 0 ∧ (runR p l s).1 = l.calls.length ∧ bGe p.chs.length (stN p l s l.hours.toNat).brash ∧ (stN p l s l.hours.toNat).busy = busyAft l s.busy ∧
      ∀ c : Int, 0 ≤ c → c < p.chs.length → limOk (foldS p l c) (getI s.brash c) ∧ getI (stN p l s l.hours.toNat).brash c = ap (foldS p l c) (getI s.brash c)) ∨
    ((runR p l s).2 = 8 ∧ ∃ (x : Cal) (c : Int), l.calls[(runR p l s).1]? = some x ∧ 0 ≤ c ∧ c < p.chs.length ∧ c ∈ (bt p x.berth).path ∧ ¬ limOk (foldS p l c) (getI s.brash c)) := by
  rcases run_sem v hb ho with ⟨q1, q2, q3, q4, q5⟩ | ⟨q1, x, c, q2, q3, q4⟩
  · refine .inl ⟨q1, q2, q3, q4, fun c c0 c1 => ?_⟩
    obtain ⟨e1, e2⟩ := foldS_sem v c0 c1 (hb.2 c c0 c1)
    rw [e1, e2]
    exact q5 c c0 c1
  · obtain ⟨c0, c1⟩ := (v.calOk x (List.mem_of_getElem? q2)).rng c q3
    exact .inr ⟨q1, x, c, q2, c0, c1, q3, fun hq => q4 ((foldS_sem v c0 c1 (hb.2 c c0 c1)).1.1 hq)⟩
end Go.Proofs.Ythmldeningpjbaa.Pt
