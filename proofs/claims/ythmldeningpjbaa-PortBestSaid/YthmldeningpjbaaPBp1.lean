/- What the functions of layer 9 compute, further: ports, plans, and what plans do. -/
import Derived.Test.YthmldeningpjbaaPBp0
set_option linter.unusedVariables false
set_option linter.unusedSimpArgs false
namespace Go.Proofs.Ythmldeningpjbaa.Pt
open Sp

structure Brt where
  depth : Int
  path : List Int
deriving DecidableEq, Inhabited
structure Prt where
  chs : List Chn
  bts : List Brt
  tugs : Int
deriving DecidableEq, Inhabited
structure Pln where
  hours : Int
  calls : List Cal
  swps : List Swp
deriving DecidableEq, Inhabited
structure Stt where
  brash : List Int
  busy : List Bool
deriving DecidableEq, Inhabited

/-- a list of numbers at a number, and with another number there -/
def getI (l : List Int) (i : Int) : Int := l.getD i.toNat 0
def setI (l : List Int) (i : Int) (x : Int) : List Int := l.set i.toNat x
theorem setI_length (l : List Int) (i x : Int) : (setI l i x).length = l.length := by simp [setI]
def ch (p : Prt) (i : Int) : Chn := p.chs.getD i.toNat default
def bt (p : Prt) (i : Int) : Brt := p.bts.getD i.toNat default

def chOk (c : Chn) : Bool := within c.grow 0 100 && within c.frost 0 20 && within c.clear 1 200
/-- the first k channels of a path are channels, and each comes once -/
def pathOk (n : Int) (l : List Int) : Nat → Bool
  | 0 => true
  | k + 1 => pathOk n l k && (within (l.getD k 0) 0 (n - 1) && !(l.take k).contains (l.getD k 0))
def btOk (n : Int) (b : Brt) : Bool := within b.depth 10 3000 && (!decide (b.path.length = 0) && pathOk n b.path b.path.length)
def checkP (p : Prt) : Int :=
  if (within p.chs.length 1 6 && within p.bts.length 1 4) = false then 2
  else if within p.tugs 0 20 = false then 100
  else if p.chs.all chOk = false then 100
  else if p.bts.all (btOk p.chs.length) = false then 100 else 0

def callE (p : Prt) (hours : Int) (c : Cal) (before : Int) : Int :=
  if (within c.berth 0 ((p.bts.length : Int) - 1) && (within c.most 0 1000000 && within c.tugs 0 20)) = false then 1
  else if within c.draught 10 (bt p c.berth).depth = false then 100
  else if within c.hour 0 (hours - 1) = false then 12
  else if c.hour < before then 11 else 0
def callsE (p : Prt) (hours : Int) : Int → List Cal → Int
  | _, [] => 0
  | before, c :: l => if callE p hours c before ≠ 0 then callE p hours c before else callsE p hours c.hour l
def swpE (p : Prt) (hours : Int) (s : Swp) : Int :=
  if (within s.channel 0 ((p.chs.length : Int) - 1) && within s.tugs 1 20) = false then 1
  else if within s.hour 0 (hours - 1) = false then 12 else 0
def swpsE (p : Prt) (hours : Int) : List Swp → Int
  | [] => 0
  | s :: l => if swpE p hours s ≠ 0 then swpE p hours s else swpsE p hours l

/-- which channels calls go through, hour by hour -/
def hitsOf (p : Prt) (c : Cal) : List (Int × Int) := (bt p c.berth).path.map fun n => (c.hour, n)
/-- tugs, whether a channel is gone through twice, what is gone through: after some more channels of a call's path -/
structure Tly where
  tugs : List Int
  twice : List Bool
  hits : List (Int × Int)
def hit1 (h : Int) (t : Tly) (n : Int) : Tly := ⟨t.tugs, t.twice.set h.toNat (t.twice.getD h.toNat false || decide (1 < (t.hits.count (h, n) + 1))), (h, n) :: t.hits⟩
def tlyCall (p : Prt) (t : Tly) (c : Cal) : Tly := (bt p c.berth).path.foldl (hit1 c.hour) ⟨setI t.tugs c.hour (getI t.tugs c.hour + c.tugs), t.twice, t.hits⟩
def tly0 (hours : Nat) : Tly := ⟨List.replicate hours 0, List.replicate hours false, []⟩
def tlyCalls (p : Prt) (hours : Nat) (l : List Cal) : Tly := l.foldl (tlyCall p) (tly0 hours)
def addSwp (t : List Int) (s : Swp) : List Int := setI t s.hour (getI t s.hour + s.tugs)
/-- the error of the hours from k on -/
def finE (tg : Int) (ts : List Int) (tw : List Bool) : Nat → Nat → Int
  | _, 0 => 0
  | k, n + 1 => if tw.getD k false then 10 else if tg < ts.getD k 0 then 9 else finE tg ts tw (k + 1) n
def checkL (p : Prt) (l : Pln) : Int :=
  if checkP p ≠ 0 then checkP p
  else if 60 < l.calls.length ∨ 200 < l.swps.length then 2
  else if within l.hours 1 100 = false then 6
  else if callsE p l.hours 0 l.calls ≠ 0 then callsE p l.hours 0 l.calls
  else if swpsE p l.hours l.swps ≠ 0 then swpsE p l.hours l.swps
  else finE p.tugs (l.swps.foldl addSwp (tlyCalls p l.hours.toNat l.calls).tugs) (tlyCalls p l.hours.toNat l.calls).twice 0 l.hours.toNat

/-- the error of a port, a state and a plan -/
def startE (p : Prt) (s : Stt) (l : Pln) : Int :=
  if checkL p l ≠ 0 then checkL p l
  else if s.brash.length ≠ p.chs.length ∨ s.busy.length ≠ p.bts.length ∨ s.brash.any (fun n => !within n 0 1000000) = true then 1 else 0

/-- what an hour does -/
def swp1 (p : Prt) (h : Int) (b : List Int) (s : Swp) : List Int := if s.hour = h then setI b s.channel (max 0 (getI b s.channel - s.tugs * (ch p s.channel).clear)) else b
def swpN (p : Prt) (h : Int) (l : List Swp) (b : List Int) : List Int := l.foldl (swp1 p h) b
def grow1 (p : Prt) (b : List Int) (n : Int) : List Int := setI b n (getI b n + (ch p n).grow)
def growN (p : Prt) (path : List Int) (b : List Int) : List Int := path.foldl (grow1 p) b
/-- the calls of an hour, from the i-th on: the index of the first one that cannot, the error, the state -/
def callsN (p : Prt) (h : Int) : List Cal → Nat → Stt → Nat × Int × Stt
  | [], i, s => (i, 0, s)
  | c :: l, i, s =>
    if c.hour ≠ h then callsN p h l (i + 1) s
    else if s.busy.getD c.berth.toNat false ≠ c.out then (i, 9, s)
    else if (bt p c.berth).path.any (fun n => decide (c.most < getI s.brash n)) = true then (i, 8, s)
    else callsN p h l (i + 1) ⟨growN p (bt p c.berth).path s.brash, s.busy.set c.berth.toNat (!c.out)⟩
def frostN (p : Prt) (b : List Int) : Nat → List Int
  | 0 => b
  | k + 1 => setI (frostN p b k) k (getI (frostN p b k) k + (ch p k).frost)
def frostL (p : Prt) (b : List Int) : List Int := frostN p b p.chs.length
def hourR (p : Prt) (l : Pln) (h : Nat) (s : Stt) : Nat × Int × Stt := callsN p h l.calls 0 ⟨swpN p h l.swps s.brash, s.busy⟩
def hourS (p : Prt) (l : Pln) (h : Nat) (s : Stt) : Stt := ⟨frostL p (hourR p l h s).2.2.brash, (hourR p l h s).2.2.busy⟩
/-- the state at the beginning of hour k, if nothing is refused before -/
def stN (p : Prt) (l : Pln) (s : Stt) : Nat → Stt
  | 0 => s
  | k + 1 => hourS p l k (stN p l s k)
/-- n more hours from hour k on: the index, and the error -/
def runF (p : Prt) (l : Pln) (s : Stt) : Nat → Nat → Nat × Int
  | _, 0 => (l.calls.length, 0)
  | k, n + 1 => if (hourR p l k (stN p l s k)).2.1 ≠ 0 then ((hourR p l k (stN p l s k)).1, (hourR p l k (stN p l s k)).2.1) else runF p l s (k + 1) n
def runR (p : Prt) (l : Pln) (s : Stt) : Nat × Int := runF p l s 0 l.hours.toNat

/-- the maps of a channel -/
def mapsH (p : Prt) (l : Pln) (c : Int) (h : Nat) : List Mp :=
  (l.swps.filter fun s => decide (s.hour = (h : Int)) && decide (s.channel = c)).map (fun s => ⟨-s.tugs * (ch p c).clear, 0, NL⟩)
  ++ ((l.calls.filter fun x => decide (x.hour = (h : Int)) && (bt p x.berth).path.contains c).map (fun x => ⟨(ch p c).grow, (ch p c).grow, x.most⟩)
  ++ [⟨(ch p c).frost, (ch p c).frost, NL⟩])
def mapsS (p : Prt) (l : Pln) (c : Int) : List Mp := (List.range l.hours.toNat).flatMap (mapsH p l c)
def id1 : Mp := ⟨0, 0, NL⟩
def foldS (p : Prt) (l : Pln) (c : Int) : Mp := (mapsS p l c).foldl join1 id1
def foldE (p : Prt) (l : Pln) (c : Int) : Int := if checkL p l ≠ 0 then checkL p l else if within c 0 ((p.chs.length : Int) - 1) = false then 1 else 0

/-- in turns: the calls of a berth -/
def turnsL : List Bool → Bool
  | [] => true
  | [_] => true
  | a :: b :: l => decide (a ≠ b) && turnsL (b :: l)
def outsOf (l : Pln) (b : Int) : List Bool := (l.calls.filter fun c => decide (c.berth = b)).map (·.out)
def turnsB (l : Pln) (b : Int) : Bool := turnsL (outsOf l b) && decide ((outsOf l b).length % 2 = 0)
def turnsN (l : Pln) : Nat → Bool
  | 0 => true
  | k + 1 => turnsN l k && turnsB l k
def turns (p : Prt) (l : Pln) : Bool := turnsN l p.bts.length

def staysBad (m : Mp) : Bool := decide (m.most ≠ NL) && (decide (0 < m.add) || decide (m.most < m.floor))
def folds (p : Prt) (l : Pln) : List Mp := (List.range p.chs.length).map fun (c : Nat) => foldS p l c
def staysE (p : Prt) (l : Pln) : Int :=
  if checkL p l ≠ 0 then checkL p l else if turns p l = false then 9 else if (folds p l).any staysBad = true then 4 else 0
def staysV (p : Prt) (l : Pln) : List Int := if staysE p l = 0 then (folds p l).map (·.most) else []

def keepsV (p : Prt) (s : Stt) (l : Pln) : Bool :=
  decide (startE p s l = 0) && (decide ((runR p l s).2 = 0) && (decide ((stN p l s l.hours.toNat).busy = s.busy) && (List.range p.chs.length).all (fun i => decide ((stN p l s l.hours.toNat).brash.getD i 0 ≤ s.brash.getD i 0))))

def rounds (m : Mp) : Int :=
  if m.most = NL ∨ (m.add ≤ 0 ∧ max m.add m.floor ≤ m.most) then -1
  else if m.most < 0 then 0
  else if m.most < max m.add m.floor then 1
  else 2 + (m.most - max m.add m.floor).tdiv m.add
/-- the least number of rounds, and the channel, among the first k maps -/
def wornN (l : List Mp) : Nat → Int × Int
  | 0 => (-1, 0)
  | k + 1 => let n := rounds (l.getD k default); if 0 ≤ n ∧ ((wornN l k).1 < 0 ∨ n < (wornN l k).1) then (n, (k : Int)) else wornN l k
def wornR (p : Prt) (l : Pln) : Int × Int := wornN (folds p l) p.chs.length
def wornE (p : Prt) (l : Pln) : Int := if checkL p l ≠ 0 then checkL p l else if (wornR p l).1 < 0 then 4 else 0
end Go.Proofs.Ythmldeningpjbaa.Pt
/- What the functions of layer 9 compute, further: berthings. -/
namespace Go.Proofs.Ythmldeningpjbaa.Pt
open Sp

def vstOk (v : Vst) : Bool := within v.arr 0 1000 && (within v.last v.arr 2000 && (within v.stay 1 100 && within v.dra 10 3000))
def askedE (p : Prt) (l : List Vst) : Int := if checkP p ≠ 0 then checkP p else if 5 < l.length then 2 else if l.all vstOk = false then 1 else 0

/-- compares places, and lists of places -/
def cmp1 (a b : Plc) : Int := if a.berth ≠ b.berth then a.berth - b.berth else a.start - b.start
def cmpPl : List Plc → List Plc → Int
  | [], [] => 0
  | [], _ :: _ => -1
  | _ :: _, [] => 1
  | a :: l, b :: m => if cmp1 a b ≠ 0 then cmp1 a b else cmpPl l m

/-- the search: what has been found, and the places tried -/
structure Bst where
  least : Int
  found : List Plc
  places : List Plc
deriving DecidableEq, Inhabited
def bestLeaf (waiting : Int) (s : Bst) : Bst := if s.least < 0 ∨ waiting < s.least ∨ cmpPl s.places s.found < 0 then ⟨waiting, s.places, s.places⟩ else s
def vs (l : List Vst) (i : Nat) : Vst := l.getD i default
/-- n: how many visits are not placed -/
def seekS (p : Prt) (l : List Vst) : Nat → Int → List Int → List Bool → Bst → Bst
  | 0, waiting, _, _, s => if 0 ≤ s.least ∧ s.least < waiting then s else bestLeaf waiting s
  | n + 1, waiting, free, done, s =>
    if 0 ≤ s.least ∧ s.least < waiting then s else
    (List.range l.length).foldl (fun s i =>
      if done.getD i false then s else
      (List.range p.bts.length).foldl (fun s b =>
        if (p.bts.getD b default).depth < (vs l i).dra ∨ (vs l i).last < max (vs l i).arr (free.getD b 0) then s
        else seekS p l n (waiting + max (vs l i).arr (free.getD b 0) - (vs l i).arr) (free.set b (max (vs l i).arr (free.getD b 0) + (vs l i).stay)) (done.set i true)
          ⟨s.least, s.found, s.places.set i ⟨b, max (vs l i).arr (free.getD b 0)⟩⟩) s) s
def bestS (p : Prt) (l : List Vst) : Bst := seekS p l l.length 0 (List.replicate p.bts.length 0) (List.replicate l.length false) ⟨-1, [], List.replicate l.length ⟨0, 0⟩⟩
def bestE (p : Prt) (l : List Vst) : Int := if askedE p l ≠ 0 then askedE p l else if (bestS p l).least < 0 then 4 else 0
def bestN (p : Prt) (l : List Vst) : Int := if bestE p l = 0 then (bestS p l).least else 0
def bestV (p : Prt) (l : List Vst) : List Plc := if bestE p l = 0 then (bestS p l).found else []
end Go.Proofs.Ythmldeningpjbaa.Pt
/- What the functions of layer 9 compute, further: Verify and Crowded; and the plain law of berthings: the search is complete, its waiting is the sum. No program is named here. -/
namespace Go.Proofs.Ythmldeningpjbaa.Pt
open Sp

/-- Crowded -/
def mustOf (l : List Vst) (a d : Vst) : Nat := l.countP fun v => decide (d.dra ≤ v.dra) && (decide (v.last ≤ a.last) && decide (a.last < v.arr + v.stay))
def bertOf (p : Prt) (d : Vst) : Nat := p.bts.countP fun b => decide (d.dra ≤ b.depth)
def crowd1 (p : Prt) (l : List Vst) (a : Vst) (s : Int × Int) (d : Vst) : Int × Int :=
  if bertOf p d < mustOf l a d ∧ (s.1 < 0 ∨ a.last < s.1 ∨ (a.last = s.1 ∧ s.2 < d.dra)) then (a.last, d.dra) else s
def crowdA (p : Prt) (l : List Vst) (s : Int × Int) (a : Vst) : Int × Int := l.foldl (crowd1 p l a) s
def crowdS (p : Prt) (l : List Vst) : Int × Int := l.foldl (crowdA p l) (-1, 0)
def crowdE (p : Prt) (l : List Vst) : Int := if askedE p l ≠ 0 then askedE p l else if (crowdS p l).1 < 0 then 4 else 0
def crowdH (p : Prt) (l : List Vst) : Int := if crowdE p l = 0 then (crowdS p l).1 else 0
def crowdD (p : Prt) (l : List Vst) : Int := if crowdE p l = 0 then (crowdS p l).2 else 0

/-- Verify -/
def pc (a : List Plc) (i : Nat) : Plc := a.getD i ⟨0, 0⟩
def clash (l : List Vst) (a : List Plc) (i k : Nat) : Bool :=
  decide ((pc a k).berth = (pc a i).berth) && (decide ((pc a k).start < (pc a i).start + (vs l i).stay) && decide ((pc a i).start < (pc a k).start + (vs l k).stay))
def verX (p : Prt) (l : List Vst) (a : List Plc) (i : Nat) : Int :=
  if within (pc a i).berth 0 ((p.bts.length : Int) - 1) = false then 6
  else if (bt p (pc a i).berth).depth < (vs l i).dra then 100
  else if within (pc a i).start (vs l i).arr (vs l i).last = false then 12
  else if (List.range i).any (clash l a i) = true then 9 else 0
/-- the error of the first n places -/
def verF (p : Prt) (l : List Vst) (a : List Plc) : Nat → Int
  | 0 => 0
  | k + 1 => if verF p l a k ≠ 0 then verF p l a k else verX p l a k
def waitOf (l : List Vst) (a : List Plc) (i : Nat) : Int := (pc a i).start - (vs l i).arr
def wsum (f : Nat → Int) : Nat → Int
  | 0 => 0
  | k + 1 => wsum f k + f k
def verE (p : Prt) (l : List Vst) (a : List Plc) : Int :=
  if askedE p l ≠ 0 then askedE p l else if a.length ≠ l.length then 1
  else if verF p l a l.length ≠ 0 then verF p l a l.length
  else if (bestS p l).found = a then 0 else 7
def verN (p : Prt) (l : List Vst) (a : List Plc) : Int := if verE p l a = 0 then wsum (waitOf l a) l.length else 0

theorem wsum_congr {f g : Nat → Int} : ∀ n, (∀ i, i < n → f i = g i) → wsum f n = wsum g n
  | 0, _ => rfl
  | n + 1, h => by simp only [wsum]; rw [wsum_congr n (fun i hi => h i (by omega)), h n (by omega)]
theorem wsum_upd {f g : Nat → Int} {i : Nat} : ∀ n, i < n → (∀ k, k < n → k ≠ i → g k = f k) → wsum g n = wsum f n + (g i - f i)
  | 0, h, _ => absurd h (by omega)
  | n + 1, h, e => by
    simp only [wsum]
    by_cases hi : i = n
    · subst hi
      rw [wsum_congr i (fun k hk => e k (by omega) (by omega))]; omega
    · rw [wsum_upd n (by omega) (fun k hk hne => e k (by omega) hne), e n (by omega) (fun h => hi h.symm)]; omega
theorem wsum_nonneg {f : Nat → Int} : ∀ n, (∀ i, i < n → 0 ≤ f i) → 0 ≤ wsum f n
  | 0, _ => by simp [wsum]
  | n + 1, h => by have := wsum_nonneg n (fun i hi => h i (by omega)); have := h n (by omega); simp only [wsum]; omega

theorem verF_zero {p : Prt} {l : List Vst} {a : List Plc} : ∀ n, verF p l a n = 0 ↔ ∀ i, i < n → verX p l a i = 0
  | 0 => by simp [verF]
  | n + 1 => by
    have ih := verF_zero (p := p) (l := l) (a := a) n
    simp only [verF]
    constructor
    · intro h
      split at h
      · rename_i h2; exact absurd h h2
      · rename_i h2
        have h2 : verF p l a n = 0 := by simpa using h2
        intro i hi
        by_cases e : i = n
        · subst e; exact h
        · exact ih.1 h2 i (by omega)
    · intro h
      rw [if_neg (by rw [ih.2 (fun i hi => h i (by omega))]; simp)]
      exact h n (by omega)

/-- what a berthing is -/
structure Fits (p : Prt) (l : List Vst) (o : Nat → Plc) (i : Nat) : Prop where
  b0 : 0 ≤ (o i).berth
  b1 : (o i).berth < p.bts.length
  dep : (vs l i).dra ≤ (bt p (o i).berth).depth
  lo : (vs l i).arr ≤ (o i).start
  hi : (o i).start ≤ (vs l i).last
def Apart (l : List Vst) (o : Nat → Plc) (i k : Nat) : Prop := (o i).berth = (o k).berth → (o i).start + (vs l i).stay ≤ (o k).start ∨ (o k).start + (vs l k).stay ≤ (o i).start
theorem verX_zero {p : Prt} {l : List Vst} {a : List Plc} {i : Nat} : verX p l a i = 0 ↔ Fits p l (pc a) i ∧ ∀ k, k < i → Apart l (pc a) i k := by
  unfold verX
  constructor
  · intro h
    split at h
    · exact absurd h (by decide)
    split at h
    · exact absurd h (by decide)
    split at h
    · exact absurd h (by decide)
    split at h
    · exact absurd h (by decide)
    rename_i h1 h2 h3 h4
    simp only [within, Bool.and_eq_false_iff, decide_eq_false_iff_not] at h1 h3
    refine ⟨⟨by omega, by omega, by omega, by omega, by omega⟩, fun k hk he => ?_⟩
    simp only [List.any_eq_true, List.mem_range, not_exists, clash, Bool.and_eq_true, decide_eq_true_eq] at h4
    have := h4 k
    omega
  · rintro ⟨F, A⟩
    obtain ⟨f1, f2, f3, f4, f5⟩ := F
    rw [if_neg (by simp [within]; omega), if_neg (by omega), if_neg (by simp [within]; omega), if_neg]
    simp only [List.any_eq_true, List.mem_range, not_exists, clash, Bool.and_eq_true, decide_eq_true_eq]
    rintro k ⟨hk, e1, e2, e3⟩
    have := A k hk e1.symm
    omega
structure Way (p : Prt) (l : List Vst) (o : Nat → Plc) : Prop where
  fit : ∀ i, i < l.length → Fits p l o i
  ap : ∀ i, i < l.length → ∀ k, k < i → Apart l o i k
theorem Way.apart {p : Prt} {l : List Vst} {o : Nat → Plc} (h : Way p l o) {i k : Nat} (hi : i < l.length) (hk : k < l.length) (ne : i ≠ k) : Apart l o i k := by
  rcases Nat.lt_or_gt_of_ne ne with h1 | h1
  · intro e
    have := h.ap k hk i h1 e.symm
    omega
  · exact h.ap i hi k h1
theorem verF_way {p : Prt} {l : List Vst} {a : List Plc} : verF p l a l.length = 0 ↔ Way p l (pc a) := by
  rw [verF_zero]
  constructor
  · intro h
    exact ⟨fun i hi => (verX_zero.1 (h i hi)).1, fun i hi => (verX_zero.1 (h i hi)).2⟩
  · intro h i hi
    exact verX_zero.2 ⟨h.fit i hi, h.ap i hi⟩

/-- the search -/
def seekB0 (p : Prt) (l : List Vst) (n : Nat) (waiting : Int) (free : List Int) (done : List Bool) (i : Nat) (s : Bst) (b : Nat) : Bst :=
  if (p.bts.getD b default).depth < (vs l i).dra ∨ (vs l i).last < max (vs l i).arr (free.getD b 0) then s
  else seekS p l n (waiting + max (vs l i).arr (free.getD b 0) - (vs l i).arr) (free.set b (max (vs l i).arr (free.getD b 0) + (vs l i).stay)) (done.set i true)
    ⟨s.least, s.found, s.places.set i ⟨b, max (vs l i).arr (free.getD b 0)⟩⟩
def seekI0 (p : Prt) (l : List Vst) (n : Nat) (waiting : Int) (free : List Int) (done : List Bool) (s : Bst) (i : Nat) : Bst :=
  if done.getD i false then s else (List.range p.bts.length).foldl (seekB0 p l n waiting free done i) s
theorem seekS_succ0 (p : Prt) (l : List Vst) (n : Nat) (waiting : Int) (free : List Int) (done : List Bool) (s : Bst) :
    seekS p l (n + 1) waiting free done s = if 0 ≤ s.least ∧ s.least < waiting then s else (List.range l.length).foldl (seekI0 p l n waiting free done) s := rfl
theorem seekS_zero0 (p : Prt) (l : List Vst) (waiting : Int) (free : List Int) (done : List Bool) (s : Bst) :
    seekS p l 0 waiting free done s = if 0 ≤ s.least ∧ s.least < waiting then s else bestLeaf waiting s := rfl
theorem foldl_pres {S T : Type} (f : S → T → S) (P : S → Prop) : ∀ (l : List T) (s : S), (∀ s x, x ∈ l → P s → P (f s x)) → P s → P (l.foldl f s)
  | [], _, _, h => h
  | x :: l, s, hf, h => foldl_pres f P l (f s x) (fun s y hy => hf s y (by simp [hy])) (hf s x (by simp) h)
theorem foldl_hit {S T : Type} (f : S → T → S) (P : S → Prop) {x : T} : ∀ (l : List T) (s : S), x ∈ l → (∀ s, P (f s x)) → (∀ s y, P s → P (f s y)) → P (l.foldl f s)
  | [], _, hx, _, _ => absurd hx (by simp)
  | y :: l, s, hx, h1, h2 => by
    rw [List.foldl_cons]
    rcases List.mem_cons.1 hx with e | e
    · subst e
      exact foldl_pres f P l _ (fun s z _ hs => h2 s z hs) (h1 s)
    · exact foldl_hit f P l _ e h1 h2
/-- what has been found does not become worse -/
def Nw (B : Int) (s : Bst) : Prop := 0 ≤ s.least ∧ s.least ≤ B
theorem seek_mono {p : Prt} {l : List Vst} {B : Int} : ∀ (n : Nat) (waiting : Int) (free : List Int) (done : List Bool) (s : Bst), 0 ≤ waiting → Nw B s → Nw B (seekS p l n waiting free done s)
  | 0, waiting, free, done, s, hw, h => by
    obtain ⟨h1, h2⟩ := h
    rw [seekS_zero0]
    split
    · exact ⟨h1, h2⟩
    · unfold bestLeaf
      split
      · constructor
        · exact hw
        · simp only; omega
      · exact ⟨h1, h2⟩
  | n + 1, waiting, free, done, s, hw, h => by
    rw [seekS_succ0]
    split
    · exact h
    · refine foldl_pres _ _ _ _ (fun s i _ hs => ?_) h
      unfold seekI0
      split
      · exact hs
      · refine foldl_pres _ _ _ _ (fun s b _ hs => ?_) hs
        unfold seekB0
        split
        · exact hs
        · exact seek_mono n _ _ _ _ (by omega) hs
/-- the one of a list of numbers, of those that are asked, whose value is least -/
theorem least_of (f : Nat → Int) (q : Nat → Bool) : ∀ n, (∃ i, i < n ∧ q i = true) → ∃ i, i < n ∧ q i = true ∧ ∀ k, k < n → q k = true → f i ≤ f k
  | 0, h => by obtain ⟨i, hi, _⟩ := h; omega
  | n + 1, h => by
    by_cases h0 : ∃ i, i < n ∧ q i = true
    · obtain ⟨i, hi, hq, hl⟩ := least_of f q n h0
      by_cases h1 : q n = true ∧ f n < f i
      · refine ⟨n, by omega, h1.1, fun k hk hqk => ?_⟩
        by_cases e : k = n
        · subst e; omega
        · have := hl k (by omega) hqk; omega
      · refine ⟨i, by omega, hq, fun k hk hqk => ?_⟩
        by_cases e : k = n
        · subst e
          have : ¬ f k < f i := fun h => h1 ⟨hqk, h⟩
          omega
        · exact hl k (by omega) hqk
    · obtain ⟨i, hi, hq⟩ := h
      have e : i = n := by
        by_cases e : i = n
        · exact e
        · exact absurd ⟨i, by omega, hq⟩ h0
      subst e
      refine ⟨i, by omega, hq, fun k hk hqk => ?_⟩
      by_cases e : k = i
      · subst e; omega
      · exact absurd ⟨k, by omega, hqk⟩ h0
theorem count_undone {done : List Bool} {n : Nat} (h : done.count false = n + 1) : ∃ i, i < done.length ∧ (!done.getD i false) = true := by
  have : false ∈ done := by rw [← List.count_pos_iff]; omega
  obtain ⟨i, hi, e⟩ := List.mem_iff_getElem.1 this
  exact ⟨i, hi, by simp [List.getD_eq_getElem?_getD, hi, e]⟩
theorem count_done {done : List Bool} {n i : Nat} (h : done.count false = n + 1) (hi : i < done.length) (hd : done.getD i false = false) : (done.set i true).count false = n := by
  have e : done[i] = false := by simpa [List.getD_eq_getElem?_getD, hi] using hd
  rw [List.count_set hi, e]
  simp; omega
theorem getD_set_self {T : Type} (l : List T) {i : Nat} (x d : T) (hi : i < l.length) : (l.set i x).getD i d = x := by simp [List.getD_eq_getElem?_getD, hi]
theorem getD_set_ne {T : Type} (l : List T) {i k : Nat} (x d : T) (hk : k ≠ i) : (l.set i x).getD k d = l.getD k d := by simp [List.getD_eq_getElem?_getD, hk.symm]

structure Rest (p : Prt) (l : List Vst) (free : List Int) (done : List Bool) (o : Nat → Plc) : Prop where
  fit : ∀ i, i < l.length → done.getD i false = false → Fits p l o i ∧ free.getD (o i).berth.toNat 0 ≤ (o i).start
  ap : ∀ i, i < l.length → done.getD i false = false → ∀ k, k < l.length → done.getD k false = false → i ≠ k → Apart l o i k
/-- the search finds one that waits no longer than any one -/
theorem seek_least {p : Prt} {l : List Vst} (hst : ∀ i, i < l.length → 1 ≤ (vs l i).stay) {o : Nat → Plc} : ∀ (n : Nat) (waiting : Int) (free : List Int) (done : List Bool) (s : Bst), 0 ≤ waiting → done.length = l.length → done.count false = n → free.length = p.bts.length →
    Rest p l free done o → Nw (waiting + wsum (fun i => if done.getD i false then 0 else (o i).start - (vs l i).arr) l.length) (seekS p l n waiting free done s)
  | 0, waiting, free, done, s, hw, hd, hc, hf, R => by
    have h0 : 0 ≤ wsum (fun i => if done.getD i false then 0 else (o i).start - (vs l i).arr) l.length := by
      refine wsum_nonneg _ fun i hi => ?_
      split
      · omega
      · rename_i h; have := (R.fit i hi (by simpa using h)).1.lo; omega
    rw [seekS_zero0]
    split
    · constructor <;> omega
    · unfold bestLeaf
      split
      · constructor
        · exact hw
        · simp only; omega
      · constructor <;> omega
  | n + 1, waiting, free, done, s, hw, hd, hc, hf, R => by
    have h0 : 0 ≤ wsum (fun i => if done.getD i false then 0 else (o i).start - (vs l i).arr) l.length := by
      refine wsum_nonneg _ fun i hi => ?_
      split
      · omega
      · rename_i h; have := (R.fit i hi (by simpa using h)).1.lo; omega
    rw [seekS_succ0]
    split
    · constructor <;> omega
    · obtain ⟨i, hi, hq, hmin⟩ := least_of (fun i => (o i).start) (fun i => !done.getD i false) l.length (by rw [← hd]; exact count_undone hc)
      have hq' : done.getD i false = false := by simpa using hq
      have hmono : ∀ s y, Nw (waiting + wsum (fun i => if done.getD i false then 0 else (o i).start - (vs l i).arr) l.length) s → Nw (waiting + wsum (fun i => if done.getD i false then 0 else (o i).start - (vs l i).arr) l.length) (seekI0 p l n waiting free done s y) := by
        intro s y hs
        unfold seekI0
        split
        · exact hs
        · refine foldl_pres _ _ _ _ (fun s b _ hs => ?_) hs
          unfold seekB0
          split
          · exact hs
          · exact seek_mono n _ _ _ _ (by omega) hs
      refine foldl_hit _ _ (x := i) _ _ (List.mem_range.2 hi) (fun s => ?_) hmono
      unfold seekI0
      rw [if_neg (by rw [hq']; simp)]
      obtain ⟨F, hfr⟩ := R.fit i hi hq'
      obtain ⟨b, hb⟩ : ∃ b : Nat, (o i).berth = b := ⟨(o i).berth.toNat, by have := F.b0; omega⟩
      have hbl : b < p.bts.length := by have := F.b1; omega
      refine foldl_hit _ _ (x := b) _ _ (List.mem_range.2 hbl) (fun s => ?_) (fun s y hs => ?_)
      · unfold seekB0
        have hfr' : free.getD b 0 ≤ (o i).start := by rw [hb] at hfr; simpa using hfr
        have hlo := F.lo
        have hhi := F.hi
        have hdp : (vs l i).dra ≤ (p.bts.getD b default).depth := by have := F.dep; rw [hb] at this; simpa [bt] using this
        obtain ⟨st, hst'⟩ : ∃ st, st = max (vs l i).arr (free.getD b 0) := ⟨_, rfl⟩
        rw [← hst']
        rw [if_neg (by omega)]
        have key := seek_least hst n (waiting + st - (vs l i).arr) (free.set b (st + (vs l i).stay)) (done.set i true) ⟨s.least, s.found, s.places.set i ⟨b, st⟩⟩ (by omega) (by simpa using hd) (count_done hc (by omega) hq') (by simpa using hf) (o := o) ?_
        · have e := wsum_upd (f := fun i => if done.getD i false then 0 else (o i).start - (vs l i).arr) (g := fun k => if (done.set i true).getD k false then 0 else (o k).start - (vs l k).arr) (i := i) l.length hi (fun k hk hne => by
            simp only [getD_set_ne done true false hne])
          rw [e] at key
          simp only [getD_set_self done true false (by omega : i < done.length), hq'] at key
          obtain ⟨k1, k2⟩ := key
          refine ⟨k1, ?_⟩
          simp only [if_true, Bool.false_eq_true, if_false] at k2
          omega
        · refine ⟨fun k hk hdk => ?_, fun k hk hdk m hm hdm hne => ?_⟩
          · have hki : k ≠ i := fun e => by subst e; rw [getD_set_self done true false (by omega)] at hdk; cases hdk
            rw [getD_set_ne done true false hki] at hdk
            obtain ⟨Fk, hfk⟩ := R.fit k hk hdk
            refine ⟨Fk, ?_⟩
            by_cases e : (o k).berth.toNat = b
            · rw [e, getD_set_self _ _ _ (by omega)]
              have hA := R.ap i hi hq' k hk hdk (fun h => hki h.symm) (by have := Fk.b0; omega)
              have hm := hmin k hk (by simpa using hdk)
              have := hst k hk
              omega
            · rw [getD_set_ne _ _ _ e]; exact hfk
          · have hki : k ≠ i := fun e => by subst e; rw [getD_set_self done true false (by omega)] at hdk; cases hdk
            have hmi : m ≠ i := fun e => by subst e; rw [getD_set_self done true false (by omega)] at hdm; cases hdm
            rw [getD_set_ne done true false hki] at hdk
            rw [getD_set_ne done true false hmi] at hdm
            exact R.ap k hk hdk m hm hdm hne
      · unfold seekB0
        split
        · exact hs
        · exact seek_mono n _ _ _ _ (by omega) hs

/-- what the search has done so far is right -/
structure Part (p : Prt) (l : List Vst) (waiting : Int) (free : List Int) (done : List Bool) (a : List Plc) : Prop where
  dl : done.length = l.length
  fl : free.length = p.bts.length
  al : a.length = l.length
  fit : ∀ i, i < l.length → done.getD i false = true → Fits p l (pc a) i ∧ (pc a i).start + (vs l i).stay ≤ free.getD (pc a i).berth.toNat 0
  ap : ∀ i, i < l.length → done.getD i false = true → ∀ k, k < l.length → done.getD k false = true → i ≠ k → Apart l (pc a) i k
  sum : waiting = wsum (fun i => if done.getD i false then (pc a i).start - (vs l i).arr else 0) l.length
def Good (p : Prt) (l : List Vst) (s : Bst) : Prop := s.least < 0 ∨ (Way p l (pc s.found) ∧ s.found.length = l.length ∧ s.least = wsum (waitOf l s.found) l.length)
/-- the places of those that are done stay -/
def Same (done : List Bool) (a b : List Plc) : Prop := b.length = a.length ∧ ∀ i, done.getD i false = true → pc b i = pc a i
theorem Part.same {p : Prt} {l : List Vst} {waiting : Int} {free : List Int} {done : List Bool} {a b : List Plc} (h : Part p l waiting free done a) (e : Same done a b) : Part p l waiting free done b := by
  refine ⟨h.dl, h.fl, by rw [e.1]; exact h.al, fun i hi hd => ?_, fun i hi hd k hk hdk hne => ?_, ?_⟩
  · obtain ⟨F, hf⟩ := h.fit i hi hd
    have e1 := e.2 i hd
    refine ⟨⟨by rw [e1]; exact F.b0, by rw [e1]; exact F.b1, by rw [e1]; exact F.dep, by rw [e1]; exact F.lo, by rw [e1]; exact F.hi⟩, by rw [e1]; exact hf⟩
  · have h1 := h.ap i hi hd k hk hdk hne
    unfold Apart at h1 ⊢
    rw [e.2 i hd, e.2 k hdk]
    exact h1
  · rw [h.sum]
    refine wsum_congr _ fun i _ => ?_
    split
    · rename_i hd; rw [e.2 i hd]
    · rfl
theorem Same.refl (done : List Bool) (a : List Plc) : Same done a a := ⟨rfl, fun _ _ => rfl⟩
theorem Same.trans {done : List Bool} {a b c : List Plc} (h : Same done a b) (h' : Same done b c) : Same done a c := ⟨h'.1.trans h.1, fun i hd => (h'.2 i hd).trans (h.2 i hd)⟩
theorem Part.done {p : Prt} {l : List Vst} {waiting : Int} {free : List Int} {done : List Bool} {a : List Plc} (h : Part p l waiting free done a) (hc : done.count false = 0) : Way p l (pc a) ∧ waiting = wsum (waitOf l a) l.length := by
  have hall : ∀ i, i < l.length → done.getD i false = true := fun i hi => by
    have hi' : i < done.length := by rw [h.dl]; exact hi
    cases e : done.getD i false with
    | true => rfl
    | false =>
      have : false ∈ done := by
        rw [List.mem_iff_getElem]
        exact ⟨i, hi', by simpa [List.getD_eq_getElem?_getD, hi'] using e⟩
      rw [← List.count_pos_iff] at this
      omega
  refine ⟨⟨fun i hi => (h.fit i hi (hall i hi)).1, fun i hi k hk => h.ap i hi (hall i hi) k (by omega) (hall k (by omega)) (by omega)⟩, ?_⟩
  rw [h.sum]
  refine wsum_congr _ fun i hi => ?_
  rw [if_pos (hall i hi)]; rfl
theorem Part.place {p : Prt} {l : List Vst} (hst : ∀ i, i < l.length → 1 ≤ (vs l i).stay) {waiting : Int} {free : List Int} {done : List Bool} {a : List Plc} (h : Part p l waiting free done a) {i b : Nat} (hi : i < l.length) (hd : done.getD i false = false) (hb : b < p.bts.length) {st : Int}
    (hst' : st = max (vs l i).arr (free.getD b 0)) (hdp : (vs l i).dra ≤ (p.bts.getD b default).depth) (hlast : st ≤ (vs l i).last) :
    Part p l (waiting + st - (vs l i).arr) (free.set b (st + (vs l i).stay)) (done.set i true) (a.set i ⟨b, st⟩) := by
  have hdl := h.dl
  have hal := h.al
  have hfl := h.fl
  have pcs : pc (a.set i ⟨b, st⟩) i = ⟨b, st⟩ := getD_set_self _ _ _ (by omega)
  have pcn : ∀ k, k ≠ i → pc (a.set i ⟨b, st⟩) k = pc a k := fun k hk => getD_set_ne _ _ _ hk
  have hs1 := hst i hi
  refine ⟨by simpa using hdl, by simpa using hfl, by simpa using hal, fun k hk hdk => ?_, fun k hk hdk m hm hdm hne => ?_, ?_⟩
  · by_cases e : k = i
    · subst e
      refine ⟨⟨by rw [pcs]; simp, by rw [pcs]; simp; exact hb, by rw [pcs]; simpa [bt] using hdp, by rw [pcs]; simp only; omega, by rw [pcs]; exact hlast⟩, ?_⟩
      rw [pcs]
      simp only [Int.toNat_natCast]
      rw [getD_set_self _ _ _ (by omega)]
      omega
    · rw [getD_set_ne _ _ _ e] at hdk
      obtain ⟨F, hf⟩ := h.fit k hk hdk
      have e1 := pcn k e
      refine ⟨⟨by rw [e1]; exact F.b0, by rw [e1]; exact F.b1, by rw [e1]; exact F.dep, by rw [e1]; exact F.lo, by rw [e1]; exact F.hi⟩, ?_⟩
      rw [e1]
      by_cases eb : (pc a k).berth.toNat = b
      · rw [eb, getD_set_self _ _ _ (by omega)]
        rw [eb] at hf
        omega
      · rw [getD_set_ne _ _ _ eb]; exact hf
  · have key : ∀ k, k < l.length → k ≠ i → done.getD k false = true → Apart l (pc (a.set i ⟨b, st⟩)) k i := by
      intro k hk e hdk he
      rw [pcn k e, pcs] at he ⊢
      obtain ⟨F, hf⟩ := h.fit k hk hdk
      have : (pc a k).berth.toNat = b := by simp only at he; omega
      rw [this] at hf
      left
      simp only
      omega
    by_cases e1 : k = i
    · subst e1
      have hmk : m ≠ k := fun h => hne h.symm
      rw [getD_set_ne _ _ _ hmk] at hdm
      have := key m hm hmk hdm
      intro he
      have := this he.symm
      omega
    · rw [getD_set_ne _ _ _ e1] at hdk
      by_cases e2 : m = i
      · subst e2; exact key k hk e1 hdk
      · rw [getD_set_ne _ _ _ e2] at hdm
        have := h.ap k hk hdk m hm hdm hne
        unfold Apart at this ⊢
        rw [pcn k e1, pcn m e2]
        exact this
  · have e := wsum_upd (f := fun i => if done.getD i false then (pc a i).start - (vs l i).arr else 0) (g := fun k => if (done.set i true).getD k false then (pc (a.set i ⟨b, st⟩) k).start - (vs l k).arr else 0) (i := i) l.length hi (fun k hk hne => by
      simp only [getD_set_ne done true false hne, pcn k hne])
    rw [e, ← h.sum]
    simp only [getD_set_self done true false (by omega : i < done.length), hd, pcs, if_true, Bool.false_eq_true, if_false]
    omega
theorem seek_good {p : Prt} {l : List Vst} (hst : ∀ i, i < l.length → 1 ≤ (vs l i).stay) : ∀ (n : Nat) (waiting : Int) (free : List Int) (done : List Bool) (s : Bst), done.count false = n → Part p l waiting free done s.places → Good p l s →
    Good p l (seekS p l n waiting free done s) ∧ Same done s.places (seekS p l n waiting free done s).places
  | 0, waiting, free, done, s, hc, P, G => by
    rw [seekS_zero0]
    split
    · exact ⟨G, Same.refl _ _⟩
    · unfold bestLeaf
      split
      · obtain ⟨h1, h2⟩ := P.done hc
        exact ⟨.inr ⟨h1, P.al, h2⟩, Same.refl _ _⟩
      · exact ⟨G, Same.refl _ _⟩
  | n + 1, waiting, free, done, s, hc, P, G => by
    rw [seekS_succ0]
    split
    · exact ⟨G, Same.refl _ _⟩
    · refine foldl_pres (seekI0 p l n waiting free done) (fun x => Good p l x ∧ Same done s.places x.places) _ _ (fun x i hi hx => ?_) ⟨G, Same.refl _ _⟩
      unfold seekI0
      split
      · exact hx
      · rename_i hd
        have hd : done.getD i false = false := by simpa using hd
        have hi : i < l.length := List.mem_range.1 hi
        refine foldl_pres (seekB0 p l n waiting free done i) (fun x => Good p l x ∧ Same done s.places x.places) _ _ (fun x b hb hx => ?_) hx
        have hb : b < p.bts.length := List.mem_range.1 hb
        unfold seekB0
        obtain ⟨st, hst'⟩ : ∃ st, st = max (vs l i).arr (free.getD b 0) := ⟨_, rfl⟩
        rw [← hst']
        split
        · exact hx
        · rename_i hno
          have P1 := P.same hx.2
          have P2 := P1.place hst hi hd hb hst' (by omega) (by omega)
          have hdl := P.dl
          obtain ⟨g1, g2⟩ := seek_good hst n (waiting + st - (vs l i).arr) (free.set b (st + (vs l i).stay)) (done.set i true) ⟨x.least, x.found, x.places.set i ⟨b, st⟩⟩ (count_done hc (by omega) hd) P2 hx.1
          refine ⟨g1, hx.2.trans ⟨by rw [g2.1]; simp, fun k hk => ?_⟩⟩
          have hki : k ≠ i := fun e => by subst e; rw [hd] at hk; cases hk
          rw [g2.2 k (by rw [getD_set_ne _ _ _ hki]; exact hk)]
          exact getD_set_ne _ _ _ hki

section
variable {p : Prt} {l : List Vst}
theorem getD_rep {T : Type} (x d : T) (n i : Nat) : (List.replicate n x).getD i d = if i < n then x else d := by
  simp only [List.getD_eq_getElem?_getD, List.getElem?_replicate]
  split <;> rfl
theorem vs_mem {i : Nat} (hi : i < l.length) : vs l i ∈ l := by
  unfold vs
  rw [List.getD_eq_getElem?_getD, List.getElem?_eq_getElem hi]
  exact List.getElem_mem _
theorem vs_stay (hl : l.all vstOk = true) : ∀ i, i < l.length → 1 ≤ (vs l i).stay ∧ 0 ≤ (vs l i).arr := fun i hi => by
  have := List.all_eq_true.1 hl _ (vs_mem hi)
  simp only [vstOk, within, Bool.and_eq_true, decide_eq_true_eq] at this
  omega
/-- no berthing waits less than the best -/
theorem best_least (hl : l.all vstOk = true) {o : Nat → Plc} (h : Way p l o) : 0 ≤ (bestS p l).least ∧ (bestS p l).least ≤ wsum (fun i => (o i).start - (vs l i).arr) l.length := by
  have key := seek_least (p := p) (fun i hi => (vs_stay hl i hi).1) (o := o) l.length 0 (List.replicate p.bts.length 0) (List.replicate l.length false) ⟨-1, [], List.replicate l.length ⟨0, 0⟩⟩ (by omega) (by simp) (by simp) (by simp) ?_
  · obtain ⟨k1, k2⟩ := key
    refine ⟨k1, ?_⟩
    rw [wsum_congr (g := fun i => (o i).start - (vs l i).arr) _ (fun i hi => by simp only [getD_rep, ite_self, Bool.false_eq_true, if_false])] at k2
    have : (bestS p l).least ≤ _ := k2
    omega
  · refine ⟨fun i hi _ => ⟨h.fit i hi, ?_⟩, fun i hi _ k hk _ ne => h.apart hi hk ne⟩
    rw [getD_rep, ite_self]
    have := (h.fit i hi).lo
    have := (vs_stay hl i hi).2
    omega
/-- and the best is one -/
theorem best_good (hl : l.all vstOk = true) : Good p l (bestS p l) := by
  refine (seek_good (p := p) (fun i hi => (vs_stay hl i hi).1) l.length 0 (List.replicate p.bts.length 0) (List.replicate l.length false) ⟨-1, [], List.replicate l.length ⟨0, 0⟩⟩ (by simp) ?_ (.inl (by simp only; omega))).1
  have hf : ∀ i, (List.replicate l.length false).getD i false = false := fun i => by rw [getD_rep, ite_self]
  refine ⟨by simp, by simp, by simp, fun i hi hd => ?_, fun i hi hd => ?_, ?_⟩
  · rw [hf] at hd; cases hd
  · rw [hf] at hd; cases hd
  · have : ∀ n, wsum (fun i => if (List.replicate l.length false).getD i false then (pc (List.replicate l.length ⟨0, 0⟩) i).start - (vs l i).arr else 0) n = 0 := fun n => by
      induction n with
      | zero => rfl
      | succ n ih => rw [wsum, ih, hf]; rfl
    rw [this]
/-- distinct numbers that lie in a list are no more than it has -/
theorem pigeon : ∀ (xs ys : List Nat), xs.Nodup → (∀ x ∈ xs, x ∈ ys) → xs.length ≤ ys.length
  | [], _, _, _ => by simp
  | x :: xs, ys, hn, hs => by
    have hx := hs x (by simp)
    rw [List.nodup_cons] at hn
    have ih := pigeon xs (ys.erase x) hn.2 fun y hy => by
      refine (List.mem_erase_of_ne (fun e => ?_)).2 (hs y (by simp [hy]))
      subst e; exact hn.1 hy
    rw [List.length_erase_of_mem hx] at ih
    have : 0 < ys.length := List.length_pos_of_mem hx
    simp only [List.length_cons]
    omega
theorem countP_range {T : Type} (q : T → Bool) (d : T) : ∀ L : List T, L.countP q = ((List.range L.length).filter fun i => q (L.getD i d)).length := by
  intro L
  rw [← List.countP_eq_length_filter]
  have : L = (List.range L.length).map fun i => L.getD i d := by
    apply List.ext_getElem (by simp)
    intro i h1 h2
    simp [List.getD_eq_getElem?_getD, h1]
  conv => lhs; rw [this]
  rw [List.countP_map]
  rfl
/-- where a berthing is, there are enough berths -/
theorem must_le {o : Nat → Plc} (h : Way p l o) (a d : Vst) : mustOf l a d ≤ bertOf p d := by
  unfold mustOf bertOf
  rw [countP_range _ default l, countP_range _ default p.bts]
  rw [← List.length_map (f := fun i => (o i).berth.toNat)]
  have hm : ∀ i, i ∈ (List.range l.length).filter (fun i => decide (d.dra ≤ (l.getD i default).dra) && (decide ((l.getD i default).last ≤ a.last) && decide (a.last < (l.getD i default).arr + (l.getD i default).stay))) → i < l.length ∧ d.dra ≤ (vs l i).dra ∧ (vs l i).last ≤ a.last ∧ a.last < (vs l i).arr + (vs l i).stay := by
    intro i hi
    simpa [vs] using hi
  refine pigeon _ _ ?_ ?_
  · rw [List.nodup_iff_pairwise_ne, List.pairwise_map]
    refine List.Pairwise.imp_of_mem ?_ ((List.nodup_range).sublist List.filter_sublist)
    intro i k hi hk hne
    obtain ⟨i1, i2, i3, i4⟩ := hm i hi
    obtain ⟨k1, k2, k3, k4⟩ := hm k hk
    have hA := h.apart i1 k1 hne
    have Fi := h.fit i i1
    have Fk := h.fit k k1
    intro e
    have := hA (by have := Fi.b0; have := Fk.b0; omega)
    have := Fi.lo
    have := Fi.hi
    have := Fk.lo
    have := Fk.hi
    omega
  · intro x hx
    obtain ⟨i, hi, rfl⟩ := List.mem_map.1 hx
    obtain ⟨i1, i2, i3, i4⟩ := hm i hi
    have F := h.fit i i1
    simp only [List.mem_filter, List.mem_range, decide_eq_true_eq]
    have := F.b0
    have := F.b1
    have h3 := F.dep
    unfold bt at h3
    exact ⟨by omega, by omega⟩
theorem crowd_none (hw : ∀ a d, mustOf l a d ≤ bertOf p d) : crowdS p l = (-1, 0) := by
  unfold crowdS
  refine foldl_pres (crowdA p l) (fun s => s = (-1, 0)) l _ (fun s a _ hs => ?_) rfl
  unfold crowdA
  refine foldl_pres (crowd1 p l a) (fun s => s = (-1, 0)) l _ (fun s d _ hs => ?_) hs
  unfold crowd1
  rw [if_neg (by have := hw a d; omega)]
  exact hs
/-- with one berth more a berthing is one -/
theorem Way.more {o : Nat → Plc} (h : Way p l o) {q : Prt} {b : Brt} (hq : q.bts = p.bts ++ [b]) : Way q l o := by
  refine ⟨fun i hi => ?_, h.ap⟩
  have F := h.fit i hi
  have h0 := F.b0
  have h1 := F.b1
  refine ⟨h0, by rw [hq, List.length_append]; simp; omega, ?_, F.lo, F.hi⟩
  have h2 := F.dep
  unfold bt at h2 ⊢
  rw [hq, List.getD_eq_getElem?_getD, List.getElem?_append_left (by omega), ← List.getD_eq_getElem?_getD]
  exact h2
end
end Go.Proofs.Ythmldeningpjbaa.Pt
