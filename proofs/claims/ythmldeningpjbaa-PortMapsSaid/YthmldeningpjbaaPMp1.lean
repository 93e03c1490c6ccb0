/- What the functions of layer 9 compute, as plain Lean functions over whole numbers. No program is named here. -/
import Derived.Test.YthmldeningpjbaaPMp0
import Derived.WalkKit
set_option linter.unusedVariables false
set_option linter.unusedSimpArgs false
namespace Go.Proofs.Ythmldeningpjbaa.Pt
open Sp

structure Chn where
  grow : Int
  frost : Int
  clear : Int
deriving DecidableEq, Inhabited
structure Cal where
  hour : Int
  berth : Int
  out : Bool
  draught : Int
  most : Int
  tugs : Int
deriving DecidableEq, Inhabited
structure Swp where
  hour : Int
  channel : Int
  tugs : Int
deriving DecidableEq, Inhabited
structure Mp where
  add : Int
  floor : Int
  most : Int
deriving DecidableEq, Inhabited
structure Vst where
  arr : Int
  last : Int
  stay : Int
  dra : Int
deriving DecidableEq, Inhabited
structure Plc where
  berth : Int
  start : Int
deriving DecidableEq, Inhabited
abbrev NL : Int := 1000000000
abbrev BIG : Int := 100000000

/-- a map is one -/
def mright (m : Mp) : Bool := within m.add (-BIG) BIG && within m.floor 0 BIG && (within m.most (-1) BIG || decide (m.most = NL))
def applyE (m : Mp) (b : Int) : Int := if mright m = false then 1 else if within b 0 BIG = false then 6 else if m.most < b then 8 else 0
def applyN (m : Mp) (b : Int) : Int := if applyE m b = 0 then max (b + m.add) m.floor else 0
def joinL (a m : Mp) : Int := if a.most < 0 ∨ m.most < 0 ∨ (m.most ≠ NL ∧ m.most < a.floor) then -1 else if m.most ≠ NL then max (-1) (min a.most (m.most - a.add)) else a.most
def join1 (a m : Mp) : Mp := ⟨a.add + m.add, max (a.floor + m.add) m.floor, joinL a m⟩
def joinE (a b : Mp) : Int := if mright a = false ∨ mright b = false then 1 else if mright (join1 a b) = false then 6 else 0
def joinV (a b : Mp) : Mp := if joinE a b = 0 then join1 a b else ⟨0, 0, 0⟩
/-- a map of PortJoins -/
def small (m : Mp) : Prop := -200 ≤ m.add ∧ m.add ≤ 200 ∧ 0 ≤ m.floor ∧ m.floor ≤ 255 ∧ (m.most = -1 ∨ m.most = NL ∨ (0 ≤ m.most ∧ m.most ≤ 255))

theorem mright_iff {m : Mp} : mright m = true ↔ (-BIG ≤ m.add ∧ m.add ≤ BIG ∧ 0 ≤ m.floor ∧ m.floor ≤ BIG ∧ ((-1 ≤ m.most ∧ m.most ≤ BIG) ∨ m.most = NL)) := by
  simp [mright, within]; omega
theorem joinL_cases (a m : Mp) : (joinL a m = -1 ∧ (a.most < 0 ∨ m.most < 0 ∨ (m.most ≠ NL ∧ m.most < a.floor))) ∨
    ((0 ≤ a.most ∧ 0 ≤ m.most ∧ (m.most = NL ∨ a.floor ≤ m.most)) ∧ ((m.most ≠ NL ∧ ((a.most ≤ m.most - a.add ∧ joinL a m = a.most) ∨ (m.most - a.add < a.most ∧ -1 ≤ m.most - a.add ∧ joinL a m = m.most - a.add) ∨ (m.most - a.add < a.most ∧ m.most - a.add < -1 ∧ joinL a m = -1))) ∨ (m.most = NL ∧ joinL a m = a.most))) := by
  unfold joinL
  split
  · left; omega
  · right
    split
    · omega
    · omega
theorem join_small {a b : Mp} (ha : small a) (hb : small b) : mright a = true ∧ mright b = true ∧ mright (join1 a b) = true := by
  obtain ⟨a1, a2, a3, a4, a5⟩ := ha
  obtain ⟨b1, b2, b3, b4, b5⟩ := hb
  simp only [mright_iff, join1, NL, BIG] at *
  have := joinL_cases a b
  simp only [NL] at this
  omega
theorem joinL_lim {a m : Mp} (ha : -1 ≤ a.most) (hm : -1 ≤ m.most) {n : Int} (hn : 0 ≤ n) : n ≤ joinL a m ↔ (n ≤ a.most ∧ 0 ≤ m.most ∧ (m.most = NL ∨ (n + a.add ≤ m.most ∧ a.floor ≤ m.most))) := by
  have := joinL_cases a m
  simp only [NL] at *
  omega
theorem joinL_ge {a m : Mp} (ha : -1 ≤ a.most) : -1 ≤ joinL a m := by
  have := joinL_cases a m
  have := ha
  omega
theorem joinL_le {a m : Mp} (ha : -1 ≤ a.most) : joinL a m ≤ a.most := by
  have := joinL_cases a m
  omega
theorem eq_of_lims {p q : Int} (hp : -1 ≤ p) (hq : -1 ≤ q) (h : ∀ n, 0 ≤ n → (n ≤ p ↔ n ≤ q)) : p = q := by
  rcases Int.lt_trichotomy p q with h1 | h1 | h1
  · have := (h q (by omega)).2 (by omega); omega
  · exact h1
  · have := (h p (by omega)).1 (by omega); omega
/-- joining is associative as long as no Most that is a number is NoLimit -/
theorem joinL_assoc {a b c : Mp} (ha : -1 ≤ a.most) (hb : -1 ≤ b.most) (hc : -1 ≤ c.most) (fa : 0 ≤ a.floor) (fb : 0 ≤ b.floor)
    (hs : -BIG ≤ b.add) (hm : c.most = NL ∨ c.most ≤ BIG) (hq : joinL b c = NL ↔ (b.most = NL ∧ c.most = NL)) : joinL (join1 a b) c = joinL a (join1 b c) := by
  refine eq_of_lims (joinL_ge (joinL_ge ha)) (joinL_ge ha) fun n hn => ?_
  rw [joinL_lim (joinL_ge ha) hc hn, joinL_lim ha (joinL_ge hb) hn]
  have e1 := joinL_lim ha hb hn
  have e2 : ∀ k : Int, 0 ≤ k → _ := fun k hk => joinL_lim hb hc (n := k) hk
  have e3 := e2 (max (n + a.add) a.floor) (by omega)
  have e4 := e2 0 (by omega)
  have e5 := joinL_ge (m := c) hb
  have e6 := e2 a.floor fa
  simp only [join1] at *
  rw [e1, hq]
  generalize joinL b c = q at *
  generalize joinL a b = p at *
  clear e1
  simp only [NL, BIG] at *
  omega
theorem join_assoc {a b c : Mp} (ha : small a) (hb : small b) (hc : small c) : join1 (join1 a b) c = join1 a (join1 b c) ∧ mright (join1 (join1 a b) c) = true := by
  obtain ⟨a1, a2, a3, a4, a5⟩ := ha
  obtain ⟨b1, b2, b3, b4, b5⟩ := hb
  obtain ⟨c1, c2, c3, c4, c5⟩ := hc
  have e : joinL (join1 a b) c = joinL a (join1 b c) := by
    refine joinL_assoc (by simp only [NL] at *; omega) (by simp only [NL] at *; omega) (by simp only [NL] at *; omega) a3 b3 (by simp only [BIG]; omega) (by simp only [NL, BIG] at *; omega) ?_
    have := joinL_cases b c
    simp only [NL] at *
    omega
  refine ⟨?_, ?_⟩
  · simp only [join1] at e ⊢
    rw [e]
    congr 1
    · omega
    · omega
  · have h1 := joinL_cases a b
    have h3 := joinL_cases (join1 a b) c
    rw [mright_iff]
    simp only [join1, NL, BIG] at *
    refine ⟨by omega, by omega, by omega, by omega, ?_⟩
    clear e
    omega
/-- what a joined map does is what the two do -/
theorem apply_join {a b : Mp} (ha : small a) (hb : small b) {n : Int} (h0 : 0 ≤ n) (h1 : n < 600) :
    (applyE a n ≠ 0 → applyE a n = 8 ∧ applyE (join1 a b) n = 8) ∧ (applyE a n = 0 → applyE b (applyN a n) = applyE (join1 a b) n ∧ (applyE b (applyN a n) = 0 → applyN b (applyN a n) = applyN (join1 a b) n)) := by
  obtain ⟨r1, r2, r3⟩ := join_small ha hb
  obtain ⟨a1, a2, a3, a4, a5⟩ := ha
  obtain ⟨b1, b2, b3, b4, b5⟩ := hb
  have w1 : within n 0 BIG = true := by simp [within, BIG]; omega
  have w2 : within (max (n + a.add) a.floor) 0 BIG = true := by simp only [within, BIG, Bool.and_eq_true, decide_eq_true_eq]; omega
  have hl := joinL_lim (a := a) (m := b) (by simp only [NL] at *; omega) (by simp only [NL] at *; omega) h0
  have ea : applyE a n = if a.most < n then 8 else 0 := by unfold applyE; rw [r1, w1]; simp
  have eab : applyE (join1 a b) n = if joinL a b < n then 8 else 0 := by unfold applyE; rw [r3, w1]; simp only [join1]; rfl
  rw [ea, eab]
  refine ⟨fun h => ?_, fun h => ?_⟩
  · split at h
    · rename_i h2
      rw [if_pos (by omega), if_pos (by omega)]; exact ⟨rfl, rfl⟩
    · exact absurd rfl h
  · have h2 : ¬ a.most < n := fun h2 => by rw [if_pos h2] at h; cases h
    have en : applyN a n = max (n + a.add) a.floor := by unfold applyN; rw [ea, if_neg h2, if_pos rfl]
    have eb : applyE b (applyN a n) = if b.most < max (n + a.add) a.floor then 8 else 0 := by rw [en]; unfold applyE; rw [r2, w2]; simp
    have e : (b.most < max (n + a.add) a.floor) ↔ joinL a b < n := by
      simp only [NL] at *
      omega
    rw [eb]
    refine ⟨by simp only [e], fun h3 => ?_⟩
    have h4 : ¬ joinL a b < n := fun h4 => by rw [if_pos (e.2 h4)] at h3; cases h3
    unfold applyN
    rw [eab, if_neg h4, if_pos rfl, ea, if_neg h2, if_pos rfl]
    have : applyE b (max (n + a.add) a.floor) = 0 := by rw [← en]; rw [eb]; exact h3
    rw [this, if_pos rfl]
    simp only [join1]
    omega
end Go.Proofs.Ythmldeningpjbaa.Pt
/- What the functions of layer 9 compute, further: ports, plans, and what plans do. -/
namespace Go.Proofs.Ythmldeningpjbaa.Pt
open Sp

structure Brt where
  depth : Int
  path : List Int
deriving DecidableEq, Inhabited
structure Prt where
  chs : List Chn
  bts : List Brt
  tugs : Int
deriving DecidableEq, Inhabited
structure Pln where
  hours : Int
  calls : List Cal
  swps : List Swp
deriving DecidableEq, Inhabited
structure Stt where
  brash : List Int
  busy : List Bool
deriving DecidableEq, Inhabited

/-- a list of numbers at a number, and with another number there -/
def getI (l : List Int) (i : Int) : Int := l.getD i.toNat 0
def setI (l : List Int) (i : Int) (x : Int) : List Int := l.set i.toNat x
theorem setI_length (l : List Int) (i x : Int) : (setI l i x).length = l.length := by simp [setI]
def ch (p : Prt) (i : Int) : Chn := p.chs.getD i.toNat default
def bt (p : Prt) (i : Int) : Brt := p.bts.getD i.toNat default

def chOk (c : Chn) : Bool := within c.grow 0 100 && within c.frost 0 20 && within c.clear 1 200
/-- the first k channels of a path are channels, and each comes once -/
def pathOk (n : Int) (l : List Int) : Nat → Bool
  | 0 => true
  | k + 1 => pathOk n l k && (within (l.getD k 0) 0 (n - 1) && !(l.take k).contains (l.getD k 0))
def btOk (n : Int) (b : Brt) : Bool := within b.depth 10 3000 && (!decide (b.path.length = 0) && pathOk n b.path b.path.length)
def checkP (p : Prt) : Int :=
  if (within p.chs.length 1 6 && within p.bts.length 1 4) = false then 2
  else if within p.tugs 0 20 = false then 100
  else if p.chs.all chOk = false then 100
  else if p.bts.all (btOk p.chs.length) = false then 100 else 0

def callE (p : Prt) (hours : Int) (c : Cal) (before : Int) : Int :=
  if (within c.berth 0 ((p.bts.length : Int) - 1) && (within c.most 0 1000000 && within c.tugs 0 20)) = false then 1
  else if within c.draught 10 (bt p c.berth).depth = false then 100
  else if within c.hour 0 (hours - 1) = false then 12
  else if c.hour < before then 11 else 0
def callsE (p : Prt) (hours : Int) : Int → List Cal → Int
  | _, [] => 0
  | before, c :: l => if callE p hours c before ≠ 0 then callE p hours c before else callsE p hours c.hour l
def swpE (p : Prt) (hours : Int) (s : Swp) : Int :=
  if (within s.channel 0 ((p.chs.length : Int) - 1) && within s.tugs 1 20) = false then 1
  else if within s.hour 0 (hours - 1) = false then 12 else 0
def swpsE (p : Prt) (hours : Int) : List Swp → Int
  | [] => 0
  | s :: l => if swpE p hours s ≠ 0 then swpE p hours s else swpsE p hours l

/-- which channels calls go through, hour by hour -/
def hitsOf (p : Prt) (c : Cal) : List (Int × Int) := (bt p c.berth).path.map fun n => (c.hour, n)
/-- tugs, whether a channel is gone through twice, what is gone through: after some more channels of a call's path -/
structure Tly where
  tugs : List Int
  twice : List Bool
  hits : List (Int × Int)
def hit1 (h : Int) (t : Tly) (n : Int) : Tly := ⟨t.tugs, t.twice.set h.toNat (t.twice.getD h.toNat false || decide (1 < (t.hits.count (h, n) + 1))), (h, n) :: t.hits⟩
def tlyCall (p : Prt) (t : Tly) (c : Cal) : Tly := (bt p c.berth).path.foldl (hit1 c.hour) ⟨setI t.tugs c.hour (getI t.tugs c.hour + c.tugs), t.twice, t.hits⟩
def tly0 (hours : Nat) : Tly := ⟨List.replicate hours 0, List.replicate hours false, []⟩
def tlyCalls (p : Prt) (hours : Nat) (l : List Cal) : Tly := l.foldl (tlyCall p) (tly0 hours)
def addSwp (t : List Int) (s : Swp) : List Int := setI t s.hour (getI t s.hour + s.tugs)
/-- the error of the hours from k on -/
def finE (tg : Int) (ts : List Int) (tw : List Bool) : Nat → Nat → Int
  | _, 0 => 0
  | k, n + 1 => if tw.getD k false then 10 else if tg < ts.getD k 0 then 9 else finE tg ts tw (k + 1) n
def checkL (p : Prt) (l : Pln) : Int :=
  if checkP p ≠ 0 then checkP p
  else if 60 < l.calls.length ∨ 200 < l.swps.length then 2
  else if within l.hours 1 100 = false then 6
  else if callsE p l.hours 0 l.calls ≠ 0 then callsE p l.hours 0 l.calls
  else if swpsE p l.hours l.swps ≠ 0 then swpsE p l.hours l.swps
  else finE p.tugs (l.swps.foldl addSwp (tlyCalls p l.hours.toNat l.calls).tugs) (tlyCalls p l.hours.toNat l.calls).twice 0 l.hours.toNat

/-- the error of a port, a state and a plan -/
def startE (p : Prt) (s : Stt) (l : Pln) : Int :=
  if checkL p l ≠ 0 then checkL p l
  else if s.brash.length ≠ p.chs.length ∨ s.busy.length ≠ p.bts.length ∨ s.brash.any (fun n => !within n 0 1000000) = true then 1 else 0

/-- what an hour does -/
def swp1 (p : Prt) (h : Int) (b : List Int) (s : Swp) : List Int := if s.hour = h then setI b s.channel (max 0 (getI b s.channel - s.tugs * (ch p s.channel).clear)) else b
def swpN (p : Prt) (h : Int) (l : List Swp) (b : List Int) : List Int := l.foldl (swp1 p h) b
def grow1 (p : Prt) (b : List Int) (n : Int) : List Int := setI b n (getI b n + (ch p n).grow)
def growN (p : Prt) (path : List Int) (b : List Int) : List Int := path.foldl (grow1 p) b
/-- the calls of an hour, from the i-th on: the index of the first one that cannot, the error, the state -/
def callsN (p : Prt) (h : Int) : List Cal → Nat → Stt → Nat × Int × Stt
  | [], i, s => (i, 0, s)
  | c :: l, i, s =>
    if c.hour ≠ h then callsN p h l (i + 1) s
    else if s.busy.getD c.berth.toNat false ≠ c.out then (i, 9, s)
    else if (bt p c.berth).path.any (fun n => decide (c.most < getI s.brash n)) = true then (i, 8, s)
    else callsN p h l (i + 1) ⟨growN p (bt p c.berth).path s.brash, s.busy.set c.berth.toNat (!c.out)⟩
def frostN (p : Prt) (b : List Int) : Nat → List Int
  | 0 => b
  | k + 1 => setI (frostN p b k) k (getI (frostN p b k) k + (ch p k).frost)
def frostL (p : Prt) (b : List Int) : List Int := frostN p b p.chs.length
def hourR (p : Prt) (l : Pln) (h : Nat) (s : Stt) : Nat × Int × Stt := callsN p h l.calls 0 ⟨swpN p h l.swps s.brash, s.busy⟩
def hourS (p : Prt) (l : Pln) (h : Nat) (s : Stt) : Stt := ⟨frostL p (hourR p l h s).2.2.brash, (hourR p l h s).2.2.busy⟩
/-- the state at the beginning of hour k, if nothing is refused before -/
def stN (p : Prt) (l : Pln) (s : Stt) : Nat → Stt
  | 0 => s
  | k + 1 => hourS p l k (stN p l s k)
/-- n more hours from hour k on: the index, and the error -/
def runF (p : Prt) (l : Pln) (s : Stt) : Nat → Nat → Nat × Int
  | _, 0 => (l.calls.length, 0)
  | k, n + 1 => if (hourR p l k (stN p l s k)).2.1 ≠ 0 then ((hourR p l k (stN p l s k)).1, (hourR p l k (stN p l s k)).2.1) else runF p l s (k + 1) n
def runR (p : Prt) (l : Pln) (s : Stt) : Nat × Int := runF p l s 0 l.hours.toNat

/-- the maps of a channel -/
def mapsH (p : Prt) (l : Pln) (c : Int) (h : Nat) : List Mp :=
  (l.swps.filter fun s => decide (s.hour = (h : Int)) && decide (s.channel = c)).map (fun s => ⟨-s.tugs * (ch p c).clear, 0, NL⟩)
  ++ ((l.calls.filter fun x => decide (x.hour = (h : Int)) && (bt p x.berth).path.contains c).map (fun x => ⟨(ch p c).grow, (ch p c).grow, x.most⟩)
  ++ [⟨(ch p c).frost, (ch p c).frost, NL⟩])
def mapsS (p : Prt) (l : Pln) (c : Int) : List Mp := (List.range l.hours.toNat).flatMap (mapsH p l c)
def id1 : Mp := ⟨0, 0, NL⟩
def foldS (p : Prt) (l : Pln) (c : Int) : Mp := (mapsS p l c).foldl join1 id1
def foldE (p : Prt) (l : Pln) (c : Int) : Int := if checkL p l ≠ 0 then checkL p l else if within c 0 ((p.chs.length : Int) - 1) = false then 1 else 0

/-- in turns: the calls of a berth -/
def turnsL : List Bool → Bool
  | [] => true
  | [_] => true
  | a :: b :: l => decide (a ≠ b) && turnsL (b :: l)
def outsOf (l : Pln) (b : Int) : List Bool := (l.calls.filter fun c => decide (c.berth = b)).map (·.out)
def turnsB (l : Pln) (b : Int) : Bool := turnsL (outsOf l b) && decide ((outsOf l b).length % 2 = 0)
def turnsN (l : Pln) : Nat → Bool
  | 0 => true
  | k + 1 => turnsN l k && turnsB l k
def turns (p : Prt) (l : Pln) : Bool := turnsN l p.bts.length

def staysBad (m : Mp) : Bool := decide (m.most ≠ NL) && (decide (0 < m.add) || decide (m.most < m.floor))
def folds (p : Prt) (l : Pln) : List Mp := (List.range p.chs.length).map fun (c : Nat) => foldS p l c
def staysE (p : Prt) (l : Pln) : Int :=
  if checkL p l ≠ 0 then checkL p l else if turns p l = false then 9 else if (folds p l).any staysBad = true then 4 else 0
def staysV (p : Prt) (l : Pln) : List Int := if staysE p l = 0 then (folds p l).map (·.most) else []

def keepsV (p : Prt) (s : Stt) (l : Pln) : Bool :=
  decide (startE p s l = 0) && (decide ((runR p l s).2 = 0) && (decide ((stN p l s l.hours.toNat).busy = s.busy) && (List.range p.chs.length).all (fun i => decide ((stN p l s l.hours.toNat).brash.getD i 0 ≤ s.brash.getD i 0))))

def rounds (m : Mp) : Int :=
  if m.most = NL ∨ (m.add ≤ 0 ∧ max m.add m.floor ≤ m.most) then -1
  else if m.most < 0 then 0
  else if m.most < max m.add m.floor then 1
  else 2 + (m.most - max m.add m.floor).tdiv m.add
/-- the least number of rounds, and the channel, among the first k maps -/
def wornN (l : List Mp) : Nat → Int × Int
  | 0 => (-1, 0)
  | k + 1 => let n := rounds (l.getD k default); if 0 ≤ n ∧ ((wornN l k).1 < 0 ∨ n < (wornN l k).1) then (n, (k : Int)) else wornN l k
def wornR (p : Prt) (l : Pln) : Int × Int := wornN (folds p l) p.chs.length
def wornE (p : Prt) (l : Pln) : Int := if checkL p l ≠ 0 then checkL p l else if (wornR p l).1 < 0 then 4 else 0
end Go.Proofs.Ythmldeningpjbaa.Pt
/- Lists of numbers, and of truths, as values. No program is named here. -/
namespace Go.Proofs.Ythmldeningpjbaa
open Go

def ints (l : List Int) : List Value := l.map (Value.int .i64)
theorem ints_get {l : List Int} {k : Nat} (h : k < l.length) : (ints l)[k]? = some (.int .i64 (l.getD k 0)) := by simp [ints, h]
def bools (l : List Bool) : List Value := l.map Value.bool
theorem bools_get {l : List Bool} {k : Nat} (h : k < l.length) : (bools l)[k]? = some (.bool (l.getD k false)) := by simp [bools, h]
end Go.Proofs.Ythmldeningpjbaa
/- How ports, plans and states of layer 9 lie in memory. No program's function is named here. -/
namespace Go.Proofs.Ythmldeningpjbaa
open Go Go.RowKit Sp Pt

theorem flat_get {T : Type} {f : T → List Value} {s : Nat} (hf : ∀ x, (f x).length = s) {l : List T} {k : Nat} (hk : k < l.length) {j : Nat} (hj : j < s) : (l.flatMap f)[k*s + j]? = (f l[k])[j]? := by
  induction l generalizing k with
  | nil => simp at hk
  | cons x l ih =>
    rw [List.flatMap_cons]
    cases k with
    | zero => rw [Nat.zero_mul, Nat.zero_add, List.getElem?_append_left (by rw [hf]; exact hj)]; rfl
    | succ k =>
      have e : (k+1)*s + j = s + (k*s + j) := by rw [Nat.add_mul]; omega
      rw [e, List.getElem?_append_right (by rw [hf]; omega), hf, Nat.add_sub_cancel_left]
      simpa using ih (k := k) (by simpa using hk)
theorem flat_len {T : Type} {f : T → List Value} {s : Nat} (hf : ∀ x, (f x).length = s) (l : List T) : (l.flatMap f).length = l.length * s := by
  induction l with
  | nil => simp
  | cons x l ih => rw [List.flatMap_cons, List.length_append, ih, hf, List.length_cons, Nat.add_mul]; omega
theorem flat_snoc {T : Type} (f : T → List Value) (l : List T) (x : T) : (l ++ [x]).flatMap f = l.flatMap f ++ f x := by simp

/-- as Rd, in a block below D -/
def RdB (D : Nat) (w : World) (size : Nat) (A : Option Addr) (n : Nat) (xs : List Value) : Prop :=
  xs.length = n * size ∧ (0 < n → ∃ b off, A = some ⟨b, off, none⟩ ∧ b < D ∧ ∀ j u, xs[j]? = some u → w.cell? ⟨b, off + j, none⟩ = some u)
section
variable {D : Nat} {w w' : World} {size n : Nat} {A : Option Addr} {xs : List Value}
theorem RdB.rd (h : RdB D w size A n xs) (hD : D ≤ w.heap.size) : Rd w size A n xs :=
  ⟨h.1, fun h0 => by obtain ⟨b, off, e, hb, hc⟩ := h.2 h0; exact ⟨b, off, e, by omega, hc⟩⟩
theorem RdB.of (h : Rd w size A n xs) (hD : w.heap.size ≤ D) : RdB D w size A n xs :=
  ⟨h.1, fun h0 => by obtain ⟨b, off, e, hb, hc⟩ := h.2 h0; exact ⟨b, off, e, by omega, hc⟩⟩
theorem RdB.below (h : RdB D w size A n xs) (hb : Below D w w') : RdB D w' size A n xs :=
  ⟨h.1, fun h0 => by obtain ⟨b, off, e, hl, hc⟩ := h.2 h0; exact ⟨b, off, e, hl, fun j u hu => (hb.cell (p := ⟨b, off + j, none⟩) hl).trans (hc j u hu)⟩⟩
theorem RdB.mono (h : RdB D w size A n xs) {D' : Nat} (hD : D ≤ D') : RdB D' w size A n xs :=
  ⟨h.1, fun h0 => by obtain ⟨b, off, e, hb, hc⟩ := h.2 h0; exact ⟨b, off, e, by omega, hc⟩⟩
end

def chc (c : Chn) : List Value := [.int .i64 c.grow, .int .i64 c.frost, .int .i64 c.clear]
abbrev chcs (l : List Chn) : List Value := l.flatMap chc
def cac (c : Cal) : List Value := [.int .i64 c.hour, .int .i64 c.berth, .bool c.out, .int .i64 c.draught, .int .i64 c.most, .int .i64 c.tugs]
abbrev cacs (l : List Cal) : List Value := l.flatMap cac
def swc (s : Swp) : List Value := [.int .i64 s.hour, .int .i64 s.channel, .int .i64 s.tugs]
abbrev swcs (l : List Swp) : List Value := l.flatMap swc
def mpc (m : Mp) : List Value := [.int .i64 m.add, .int .i64 m.floor, .int .i64 m.most]
def vsc (v : Vst) : List Value := [.int .i64 v.arr, .int .i64 v.last, .int .i64 v.stay, .int .i64 v.dra]
abbrev vscs (l : List Vst) : List Value := l.flatMap vsc
def plc (x : Plc) : List Value := [.int .i64 x.berth, .int .i64 x.start]
abbrev plcs (l : List Plc) : List Value := l.flatMap plc

theorem chcs_get {l : List Chn} {k : Nat} (hk : k < l.length) : (chcs l)[k*3]? = some (.int .i64 l[k].grow) ∧ (chcs l)[k*3+1]? = some (.int .i64 l[k].frost) ∧ (chcs l)[k*3+2]? = some (.int .i64 l[k].clear) :=
  ⟨flat_get (f := chc) (s := 3) (fun _ => rfl) hk (j := 0) (by decide), flat_get (f := chc) (s := 3) (fun _ => rfl) hk (j := 1) (by decide), flat_get (f := chc) (s := 3) (fun _ => rfl) hk (j := 2) (by decide)⟩
theorem cacs_get {l : List Cal} {k : Nat} (hk : k < l.length) : (cacs l)[k*6]? = some (.int .i64 l[k].hour) ∧ (cacs l)[k*6+1]? = some (.int .i64 l[k].berth) ∧ (cacs l)[k*6+2]? = some (.bool l[k].out) ∧ (cacs l)[k*6+3]? = some (.int .i64 l[k].draught) ∧ (cacs l)[k*6+4]? = some (.int .i64 l[k].most) ∧ (cacs l)[k*6+5]? = some (.int .i64 l[k].tugs) :=
  ⟨flat_get (f := cac) (s := 6) (fun _ => rfl) hk (j := 0) (by decide), flat_get (f := cac) (s := 6) (fun _ => rfl) hk (j := 1) (by decide), flat_get (f := cac) (s := 6) (fun _ => rfl) hk (j := 2) (by decide), flat_get (f := cac) (s := 6) (fun _ => rfl) hk (j := 3) (by decide), flat_get (f := cac) (s := 6) (fun _ => rfl) hk (j := 4) (by decide), flat_get (f := cac) (s := 6) (fun _ => rfl) hk (j := 5) (by decide)⟩
theorem swcs_get {l : List Swp} {k : Nat} (hk : k < l.length) : (swcs l)[k*3]? = some (.int .i64 l[k].hour) ∧ (swcs l)[k*3+1]? = some (.int .i64 l[k].channel) ∧ (swcs l)[k*3+2]? = some (.int .i64 l[k].tugs) :=
  ⟨flat_get (f := swc) (s := 3) (fun _ => rfl) hk (j := 0) (by decide), flat_get (f := swc) (s := 3) (fun _ => rfl) hk (j := 1) (by decide), flat_get (f := swc) (s := 3) (fun _ => rfl) hk (j := 2) (by decide)⟩
theorem vscs_get {l : List Vst} {k : Nat} (hk : k < l.length) : (vscs l)[k*4]? = some (.int .i64 l[k].arr) ∧ (vscs l)[k*4+1]? = some (.int .i64 l[k].last) ∧ (vscs l)[k*4+2]? = some (.int .i64 l[k].stay) ∧ (vscs l)[k*4+3]? = some (.int .i64 l[k].dra) :=
  ⟨flat_get (f := vsc) (s := 4) (fun _ => rfl) hk (j := 0) (by decide), flat_get (f := vsc) (s := 4) (fun _ => rfl) hk (j := 1) (by decide), flat_get (f := vsc) (s := 4) (fun _ => rfl) hk (j := 2) (by decide), flat_get (f := vsc) (s := 4) (fun _ => rfl) hk (j := 3) (by decide)⟩
theorem plcs_get {l : List Plc} {k : Nat} (hk : k < l.length) : (plcs l)[k*2]? = some (.int .i64 l[k].berth) ∧ (plcs l)[k*2+1]? = some (.int .i64 l[k].start) :=
  ⟨flat_get (f := plc) (s := 2) (fun _ => rfl) hk (j := 0) (by decide), flat_get (f := plc) (s := 2) (fun _ => rfl) hk (j := 1) (by decide)⟩

/-- a berth's path: where it lies -/
def PathB (D : Nat) (w : World) (A : Option Addr) (c : Nat) (l : List Int) : Prop := RdB D w 1 A l.length (ints l) ∧ l.length ≤ c ∧ c ≤ 9223372036854775807 ∧ (A = none → c = 0)
/-- berths -/
def BtsB (D : Nat) (w : World) (A : Option Addr) (l : List Brt) : Prop :=
  ∀ (k : Nat) (hk : k < l.length), ∃ b off Ak ck, A = some ⟨b, off, none⟩ ∧ b < D ∧ w.cell? ⟨b, off + k*2, none⟩ = some (.int .i64 l[k].depth) ∧ w.cell? ⟨b, off + k*2 + 1, none⟩ = some (.slice Ak l[k].path.length ck) ∧ PathB D w Ak ck l[k].path
section
variable {D : Nat} {w w' : World} {A : Option Addr}
theorem PathB.below {c : Nat} {l : List Int} (h : PathB D w A c l) (hb : Below D w w') : PathB D w' A c l := ⟨h.1.below hb, h.2⟩
theorem PathB.mono {c : Nat} {l : List Int} (h : PathB D w A c l) {D' : Nat} (hD : D ≤ D') : PathB D' w A c l := ⟨h.1.mono hD, h.2⟩
theorem BtsB.below {l : List Brt} (h : BtsB D w A l) (hb : Below D w w') : BtsB D w' A l := by
  intro k hk
  obtain ⟨b, off, Ak, ck, e, hlt, h1, h2, h3⟩ := h k hk
  exact ⟨b, off, Ak, ck, e, hlt, (hb.cell (p := ⟨b, off + k*2, none⟩) hlt).trans h1, (hb.cell (p := ⟨b, off + k*2 + 1, none⟩) hlt).trans h2, h3.below hb⟩
theorem BtsB.mono {l : List Brt} (h : BtsB D w A l) {D' : Nat} (hD : D ≤ D') : BtsB D' w A l := by
  intro k hk
  obtain ⟨b, off, Ak, ck, e, hlt, h1, h2, h3⟩ := h k hk
  exact ⟨b, off, Ak, ck, e, by omega, h1, h2, h3.mono hD⟩
end

/-- a port's value -/
abbrev prtV (Ac : Option Addr) (cc : Nat) (Ab : Option Addr) (cb : Nat) (p : Prt) : Array Value := #[.slice Ac p.chs.length cc, .slice Ab p.bts.length cb, .int .i64 p.tugs]
structure PrtB (D : Nat) (w : World) (Ac : Option Addr) (cc : Nat) (Ab : Option Addr) (cb : Nat) (p : Prt) : Prop where
  chs : RdB D w 3 Ac p.chs.length (chcs p.chs)
  bts : BtsB D w Ab p.bts
  c1 : p.chs.length ≤ cc ∧ cc ≤ 9223372036854775807 ∧ (Ac = none → cc = 0)
  c2 : p.bts.length ≤ cb ∧ cb ≤ 9223372036854775807 ∧ (Ab = none → cb = 0)
/-- a plan's value -/
abbrev plnV (Al : Option Addr) (cl : Nat) (As : Option Addr) (cs : Nat) (l : Pln) : Array Value := #[.int .i64 l.hours, .slice Al l.calls.length cl, .slice As l.swps.length cs]
structure PlnB (D : Nat) (w : World) (Al : Option Addr) (cl : Nat) (As : Option Addr) (cs : Nat) (l : Pln) : Prop where
  calls : RdB D w 6 Al l.calls.length (cacs l.calls)
  swps : RdB D w 3 As l.swps.length (swcs l.swps)
  c1 : l.calls.length ≤ cl ∧ cl ≤ 9223372036854775807 ∧ (Al = none → cl = 0)
  c2 : l.swps.length ≤ cs ∧ cs ≤ 9223372036854775807 ∧ (As = none → cs = 0)
section
variable {D : Nat} {w w' : World} {Ac Ab Al As : Option Addr} {cc cb cl cs : Nat} {p : Prt} {l : Pln}
theorem PrtB.below (h : PrtB D w Ac cc Ab cb p) (hb : Below D w w') : PrtB D w' Ac cc Ab cb p := ⟨h.chs.below hb, h.bts.below hb, h.c1, h.c2⟩
theorem PrtB.mono (h : PrtB D w Ac cc Ab cb p) {D' : Nat} (hD : D ≤ D') : PrtB D' w Ac cc Ab cb p := ⟨h.chs.mono hD, h.bts.mono hD, h.c1, h.c2⟩
theorem PlnB.below (h : PlnB D w Al cl As cs l) (hb : Below D w w') : PlnB D w' Al cl As cs l := ⟨h.calls.below hb, h.swps.below hb, h.c1, h.c2⟩
theorem PlnB.mono (h : PlnB D w Al cl As cs l) {D' : Nat} (hD : D ≤ D') : PlnB D' w Al cl As cs l := ⟨h.calls.mono hD, h.swps.mono hD, h.c1, h.c2⟩
end
theorem Below.down {w w' : World} {B B' : Nat} (h : Below B w w') (hB : B' ≤ B) : Below B' w w' := h.mono hB
end Go.Proofs.Ythmldeningpjbaa
/- Berths in memory as a list of rows. No program's function is named here. -/
namespace Go.Proofs.Ythmldeningpjbaa
open Go Go.RowKit Sp Pt
set_option linter.unusedVariables false

/-- a berth as it lies in memory -/
structure BrR where
  b : Brt
  A : Option Addr
  c : Nat
deriving Inhabited
def brc (y : BrR) : List Value := [.int .i64 y.b.depth, .slice y.A y.b.path.length y.c]
abbrev brcs (l : List BrR) : List Value := l.flatMap brc
theorem brcs_one (l : List BrR) : ∀ u ∈ brcs l, u.oneCell' = true := by
  intro u hu
  obtain ⟨y, _, hy⟩ := List.mem_flatMap.1 hu
  simp [brc] at hy
  rcases hy with rfl | rfl <;> rfl
theorem brcs_get {l : List BrR} {k : Nat} (hk : k < l.length) : (brcs l)[k*2]? = some (.int .i64 l[k].b.depth) ∧ (brcs l)[k*2+1]? = some (.slice l[k].A l[k].b.path.length l[k].c) :=
  ⟨flat_get (f := brc) (s := 2) (fun _ => rfl) hk (j := 0) (by decide), flat_get (f := brc) (s := 2) (fun _ => rfl) hk (j := 1) (by decide)⟩
theorem brcs_len (l : List BrR) : (brcs l).length = l.length * 2 := flat_len (f := brc) (s := 2) (fun _ => rfl) l
theorem BtsB.rows {D : Nat} {w : World} {A : Option Addr} {l : List Brt} (h : BtsB D w A l) :
    ∃ L : List BrR, L.map (·.b) = l ∧ RdB D w 2 A l.length (brcs L) ∧ ∀ y ∈ L, PathB D w y.A y.c y.b.path := by
  by_cases h0 : l = []
  · subst h0
    exact ⟨[], rfl, ⟨rfl, fun h => absurd h (by simp)⟩, by simp⟩
  have hn : 0 < l.length := List.length_pos_iff.2 h0
  obtain ⟨b, off, _, _, hA, hb, _⟩ := h 0 hn
  have key : ∀ k : Fin l.length, ∃ y : BrR, y.b = l[k.1] ∧ w.cell? ⟨b, off + k.1*2, none⟩ = some (.int .i64 l[k.1].depth) ∧ w.cell? ⟨b, off + k.1*2 + 1, none⟩ = some (.slice y.A l[k.1].path.length y.c) ∧ PathB D w y.A y.c l[k.1].path := by
    intro k
    obtain ⟨b', off', Ak, ck, e, _, h1, h2, h3⟩ := h k.1 k.2
    rw [hA] at e
    injection e with e
    injection e with e1 e2 _
    subst e1 e2
    exact ⟨⟨l[k.1], Ak, ck⟩, rfl, h1, h2, h3⟩
  obtain ⟨f, hf⟩ := Classical.axiomOfChoice key
  have hlen : (List.ofFn f).length = l.length := by simp
  have hget : ∀ k (hk : k < l.length), (List.ofFn f)[k]'(by rw [hlen]; exact hk) = f ⟨k, hk⟩ := fun k hk => by simp
  refine ⟨List.ofFn f, ?_, ⟨by rw [brcs_len, hlen], fun _ => ⟨b, off, hA, hb, fun j u hu => ?_⟩⟩, fun y hy => ?_⟩
  · refine List.ext_getElem (by simp) fun k h1 h2 => ?_
    simp only [List.getElem_map, List.getElem_ofFn]
    exact (hf ⟨k, h2⟩).1
  · have hj := (List.getElem?_eq_some_iff.1 hu).1
    rw [brcs_len, hlen] at hj
    have hk : j / 2 < l.length := by omega
    obtain ⟨g0, g1⟩ := brcs_get (l := List.ofFn f) (k := j / 2) (by rw [hlen]; exact hk)
    obtain ⟨e0, e1, e2, _⟩ := hf ⟨j / 2, hk⟩
    rw [hget _ hk, e0] at g0 g1
    rcases (by omega : j % 2 = 0 ∨ j % 2 = 1) with h | h
    · rw [show j = j / 2 * 2 from by omega, g0] at hu
      injection hu with hu
      rw [show j = j / 2 * 2 from by omega, ← hu]
      exact e1
    · rw [show j = j / 2 * 2 + 1 from by omega, g1] at hu
      injection hu with hu
      rw [show off + j = off + j / 2 * 2 + 1 from by omega, ← hu]
      exact e2
  · obtain ⟨k, rfl⟩ := (List.mem_ofFn).1 hy
    obtain ⟨e0, _, _, e3⟩ := hf k
    rw [e0]
    exact e3
theorem BtsB.of_rows {D : Nat} {w : World} {A : Option Addr} {l : List Brt} {L : List BrR} (hm : L.map (·.b) = l) (hr : RdB D w 2 A l.length (brcs L)) (hp : ∀ y ∈ L, PathB D w y.A y.c y.b.path) : BtsB D w A l := by
  intro k hk
  have hk' : k < L.length := by rw [← hm] at hk; simpa using hk
  have e : L[k].b = l[k] := by subst hm; simp
  obtain ⟨b, off, hA, hb, hc⟩ := hr.2 (by omega)
  obtain ⟨g0, g1⟩ := brcs_get hk'
  rw [e] at g0 g1
  have := hp _ (List.getElem_mem hk')
  rw [e] at this
  exact ⟨b, off, L[k].A, L[k].c, hA, hb, hc _ _ g0, by rw [Nat.add_assoc]; exact hc _ _ g1, this⟩
end Go.Proofs.Ythmldeningpjbaa
/- How the arguments of layer 9's laws read: ports, plans, states, maps -/
namespace Go.Proofs.Ythmldeningpjbaa
open Go Go.ChangeShapes Go.WideShapes Go.ChangeAt Go.RowKit Sp Pt
set_option linter.unusedVariables false

theorem flat_intsP (l : List Int) : l.flatMap (fun y => [Value.int .i64 y]) = ints l := by
  induction l with
  | nil => rfl
  | cons x l ih => rw [List.flatMap_cons, ih]; rfl
theorem flat_boolsP (l : List Bool) : l.flatMap (fun y => [Value.bool y]) = bools l := by
  induction l with
  | nil => rfl
  | cons x l ih => rw [List.flatMap_cons, ih]; rfl
section
variable {H : Type} {enc : TypeId × Value → H} {w : World}
theorem elp_int : ∀ (fuel : Nat) (cs : List Value) (x : DataW H × List MemPlace), DataW.trod enc Try.prog w 0 (fun _ => true) true fuel 3 cs = some x → ∃ y : Int, cs = [Value.int .i64 y] ∧ True := by
  intro fuel cs x h
  obtain ⟨n, rfl, _⟩ := DataW.trod_int Try.underlying3 h
  exact ⟨n, rfl, trivial⟩
theorem elp_bool : ∀ (fuel : Nat) (cs : List Value) (x : DataW H × List MemPlace), DataW.trod enc Try.prog w 0 (fun _ => true) true fuel 4 cs = some x → ∃ y : Bool, cs = [Value.bool y] ∧ True := by
  intro fuel cs x h
  obtain ⟨n, rfl, _⟩ := DataW.trod_bool Try.underlying4 h
  exact ⟨n, rfl, trivial⟩
theorem el_chn : ∀ (fuel : Nat) (cs : List Value) (x : DataW H × List MemPlace), DataW.trod enc Try.prog w 0 (fun _ => true) true fuel 144 cs = some x → ∃ y : Chn, cs = chc y ∧ True := by
  intro fuel cs x h
  obtain ⟨h1, h2⟩ := flat_cells 3 144 [some .i64, some .i64, some .i64] fuel cs x (by kernel_rfl) h
  obtain ⟨_, e0, a0, rfl, _⟩ := h2 0 _ rfl
  obtain ⟨_, e1, a1, rfl, _⟩ := h2 1 _ rfl
  obtain ⟨_, e2, a2, rfl, _⟩ := h2 2 _ rfl
  match cs, h1, e0, e1, e2 with
  | [_, _, _], _, e0, e1, e2 =>
    simp at e0 e1 e2
    exact ⟨⟨a0, a1, a2⟩, by rw [e0, e1, e2]; rfl, trivial⟩
theorem el_swp : ∀ (fuel : Nat) (cs : List Value) (x : DataW H × List MemPlace), DataW.trod enc Try.prog w 0 (fun _ => true) true fuel 126 cs = some x → ∃ y : Swp, cs = swc y ∧ True := by
  intro fuel cs x h
  obtain ⟨h1, h2⟩ := flat_cells 3 126 [some .i64, some .i64, some .i64] fuel cs x (by kernel_rfl) h
  obtain ⟨_, e0, a0, rfl, _⟩ := h2 0 _ rfl
  obtain ⟨_, e1, a1, rfl, _⟩ := h2 1 _ rfl
  obtain ⟨_, e2, a2, rfl, _⟩ := h2 2 _ rfl
  match cs, h1, e0, e1, e2 with
  | [_, _, _], _, e0, e1, e2 =>
    simp at e0 e1 e2
    exact ⟨⟨a0, a1, a2⟩, by rw [e0, e1, e2]; rfl, trivial⟩
set_option maxRecDepth 100000 in
theorem el_cal : ∀ (fuel : Nat) (cs : List Value) (x : DataW H × List MemPlace), DataW.trod enc Try.prog w 0 (fun _ => true) true fuel 55 cs = some x → ∃ y : Cal, cs = cac y ∧ True := by
  intro fuel cs x h
  obtain ⟨h1, h2⟩ := flat_cells 3 55 [some .i64, some .i64, none, some .i64, some .i64, some .i64] fuel cs x (by kernel_rfl) h
  obtain ⟨_, e0, a0, rfl, _⟩ := h2 0 _ rfl
  obtain ⟨_, e1, a1, rfl, _⟩ := h2 1 _ rfl
  obtain ⟨_, e2, a2, rfl⟩ := h2 2 _ rfl
  obtain ⟨_, e3, a3, rfl, _⟩ := h2 3 _ rfl
  obtain ⟨_, e4, a4, rfl, _⟩ := h2 4 _ rfl
  obtain ⟨_, e5, a5, rfl, _⟩ := h2 5 _ rfl
  match cs, h1, e0, e1, e2, e3, e4, e5 with
  | [_, _, _, _, _, _], _, e0, e1, e2, e3, e4, e5 =>
    simp at e0 e1 e2 e3 e4 e5
    exact ⟨⟨a0, a1, a2, a3, a4, a5⟩, by rw [e0, e1, e2, e3, e4, e5]; rfl, trivial⟩
set_option maxRecDepth 100000 in
theorem el_brt : ∀ (fuel : Nat) (cs : List Value) (x : DataW H × List MemPlace), DataW.trod enc Try.prog w 0 (fun _ => true) true fuel 53 cs = some x →
    ∃ y : BrR, cs = brc y ∧ (Rd w 1 y.A y.b.path.length (ints y.b.path) ∧ y.b.path.length ≤ y.c ∧ y.c ≤ 9223372036854775807 ∧ (y.A = none → y.c = 0)) := by
  intro fuel cs x h
  obtain ⟨xs, m, rfl, _, hlen, hxl, hf⟩ := DataW.trod_struct Try.underlying53 h
  have hc : Try.prog.cellsOf 53 = 2 := by kernel_rfl
  have hi : Try.prog.cellsOf 3 = 1 := by kernel_rfl
  have hs : Try.prog.cellsOf 33 = 1 := by kernel_rfl
  rw [hc] at hlen
  have get : ∀ i, i < 2 → ∃ y, xs[i]? = some y := fun i h => ⟨_, List.getElem?_eq_getElem (by rw [hxl]; exact h)⟩
  match cs, hlen with
  | [c0, c1], _ =>
    obtain ⟨y0, e0⟩ := get 0 (by omega)
    obtain ⟨y1, e1⟩ := get 1 (by omega)
    have g0 := (hf 0 _ rfl).trans e0
    have g1 := (hf 1 _ rfl).trans e1
    simp [hs, hi] at g0 g1
    obtain ⟨n0, k0, _⟩ := DataW.trod_int Try.underlying3 g0
    obtain ⟨A, c, l, hv, hr, _, h6, h7, h8⟩ := open_rows Try.underlying33 hi (by omega) elp_int g1
    simp at hv k0
    rw [flat_intsP] at hr
    exact ⟨⟨⟨n0, l⟩, A, c⟩, by rw [hv, k0]; rfl, hr, h6, h7, fun e => (h8 e).2⟩
set_option maxRecDepth 100000 in
theorem open_prt {r : Reach} {b0 : Nat} {v : Value} {d : DataW H} {ps : List MemPlace} (hval : Value.okWide Try.prog w r b0 26 v) (hd : DataW.Trod enc Try.prog w 0 (fun _ => true) true 26 v d ps) :
    ∃ (Ac : Option Addr) (cc : Nat) (Ab : Option Addr) (cb : Nat) (p : Prt), v = .agg (prtV Ac cc Ab cb p) ∧ PrtB w.heap.size w Ac cc Ab cb p := by
  obtain ⟨cs, rfl, fuel, h⟩ := open_agg Try.underlying26 hval hd
  obtain ⟨xs, m, rfl, _, hlen, hxl, hf⟩ := DataW.trod_struct Try.underlying26 h
  have hc : Try.prog.cellsOf 26 = 3 := by kernel_rfl
  have hi : Try.prog.cellsOf 3 = 1 := by kernel_rfl
  have hs1 : Try.prog.cellsOf 23 = 1 := by kernel_rfl
  have hs2 : Try.prog.cellsOf 24 = 1 := by kernel_rfl
  have h3 : Try.prog.cellsOf 144 = 3 := by kernel_rfl
  have h2 : Try.prog.cellsOf 53 = 2 := by kernel_rfl
  rw [hc] at hlen
  have get : ∀ i, i < 3 → ∃ y, xs[i]? = some y := fun i h => ⟨_, List.getElem?_eq_getElem (by rw [hxl]; exact h)⟩
  match hcs : cs.toList, hlen with
  | [c0, c1, c2], _ =>
    rw [hcs] at hf
    obtain ⟨y0, e0⟩ := get 0 (by omega)
    obtain ⟨y1, e1⟩ := get 1 (by omega)
    obtain ⟨y2, e2⟩ := get 2 (by omega)
    have g0 := (hf 0 _ rfl).trans e0
    have g1 := (hf 1 _ rfl).trans e1
    have g2 := (hf 2 _ rfl).trans e2
    simp [hs1, hs2, hi] at g0 g1 g2
    obtain ⟨Ac, cc, lc, hv0, hr0, _, a6, a7, a8⟩ := open_rows Try.underlying23 h3 (by omega) el_chn g0
    obtain ⟨Ab, cb, lb, hv1, hr1, hG, b6, b7, b8⟩ := open_rows Try.underlying24 h2 (by omega) el_brt g1
    obtain ⟨n2, k2, _⟩ := DataW.trod_int Try.underlying3 g2
    simp at hv0 hv1 k2
    have hl : (lb.map (·.b)).length = lb.length := by simp
    refine ⟨Ac, cc, Ab, cb, ⟨lc, lb.map (·.b), n2⟩, ?_, ⟨RdB.of hr0 (Nat.le_refl _), ?_, ⟨a6, a7, fun e => (a8 e).2⟩, ⟨by rw [hl]; exact b6, b7, fun e => (b8 e).2⟩⟩⟩
    · rw [hv0, hv1, k2] at hcs
      simp only [prtV, hl]
      exact congrArg Value.agg (Array.ext' hcs)
    · intro k hk
      have hk' : k < lb.length := by simpa using hk
      obtain ⟨b, off, e, hb, hcell⟩ := hr1.2 (by omega)
      have q0 := flat_get (f := brc) (s := 2) (fun _ => rfl) hk' (j := 0) (by decide)
      have q1 := flat_get (f := brc) (s := 2) (fun _ => rfl) hk' (j := 1) (by decide)
      have hg := hG _ (List.getElem_mem hk')
      have em : (lb.map (·.b))[k] = lb[k].b := by simp
      refine ⟨b, off, lb[k].A, lb[k].c, e, hb, ?_, ?_, ?_⟩
      · have := hcell _ _ q0
        simpa [em] using this
      · have := hcell _ _ q1
        simpa [em, Nat.add_assoc] using this
      · simp only [em]
        exact ⟨RdB.of hg.1 (Nat.le_refl _), hg.2⟩
set_option maxRecDepth 100000 in
theorem open_pln {r : Reach} {b0 : Nat} {v : Value} {d : DataW H} {ps : List MemPlace} (hval : Value.okWide Try.prog w r b0 31 v) (hd : DataW.Trod enc Try.prog w 0 (fun _ => true) true 31 v d ps) :
    ∃ (Al : Option Addr) (cl : Nat) (As : Option Addr) (cs : Nat) (l : Pln), v = .agg (plnV Al cl As cs l) ∧ PlnB w.heap.size w Al cl As cs l := by
  obtain ⟨cs, rfl, fuel, h⟩ := open_agg Try.underlying31 hval hd
  obtain ⟨xs, m, rfl, _, hlen, hxl, hf⟩ := DataW.trod_struct Try.underlying31 h
  have hc : Try.prog.cellsOf 31 = 3 := by kernel_rfl
  have hi : Try.prog.cellsOf 3 = 1 := by kernel_rfl
  have hs1 : Try.prog.cellsOf 28 = 1 := by kernel_rfl
  have hs2 : Try.prog.cellsOf 29 = 1 := by kernel_rfl
  have h3 : Try.prog.cellsOf 55 = 6 := by kernel_rfl
  have h2 : Try.prog.cellsOf 126 = 3 := by kernel_rfl
  rw [hc] at hlen
  have get : ∀ i, i < 3 → ∃ y, xs[i]? = some y := fun i h => ⟨_, List.getElem?_eq_getElem (by rw [hxl]; exact h)⟩
  match hcs : cs.toList, hlen with
  | [c0, c1, c2], _ =>
    rw [hcs] at hf
    obtain ⟨y0, e0⟩ := get 0 (by omega)
    obtain ⟨y1, e1⟩ := get 1 (by omega)
    obtain ⟨y2, e2⟩ := get 2 (by omega)
    have g0 := (hf 0 _ rfl).trans e0
    have g1 := (hf 1 _ rfl).trans e1
    have g2 := (hf 2 _ rfl).trans e2
    simp [hs1, hs2, hi] at g0 g1 g2
    obtain ⟨Al, cl, ll, hv0, hr0, _, a6, a7, a8⟩ := open_rows Try.underlying28 h3 (by omega) el_cal g1
    obtain ⟨As, ca, ls, hv1, hr1, _, b6, b7, b8⟩ := open_rows Try.underlying29 h2 (by omega) el_swp g2
    obtain ⟨n2, k2, _⟩ := DataW.trod_int Try.underlying3 g0
    simp at hv0 hv1 k2
    refine ⟨Al, cl, As, ca, ⟨n2, ll, ls⟩, ?_, ⟨RdB.of hr0 (Nat.le_refl _), RdB.of hr1 (Nat.le_refl _), ⟨a6, a7, fun e => (a8 e).2⟩, ⟨b6, b7, fun e => (b8 e).2⟩⟩⟩
    rw [hv0, hv1, k2] at hcs
    exact congrArg Value.agg (Array.ext' hcs)
set_option maxRecDepth 100000 in
theorem open_map {r : Reach} {b0 : Nat} {v : Value} {d : DataW H} {ps : List MemPlace} (hval : Value.okWide Try.prog w r b0 59 v) (hd : DataW.Trod enc Try.prog w 0 (fun _ => true) true 59 v d ps) :
    ∃ m : Mp, v = .agg #[.int .i64 m.add, .int .i64 m.floor, .int .i64 m.most] ∧ (-9223372036854775808 ≤ m.add ∧ m.add ≤ 9223372036854775807) ∧ (-9223372036854775808 ≤ m.floor ∧ m.floor ≤ 9223372036854775807) ∧ (-9223372036854775808 ≤ m.most ∧ m.most ≤ 9223372036854775807) := by
  obtain ⟨cs, rfl, fuel, h⟩ := open_agg Try.underlying59 hval hd
  obtain ⟨h1, h2⟩ := flat_cells 3 59 [some .i64, some .i64, some .i64] fuel _ _ (by kernel_rfl) h
  obtain ⟨_, e0, a0, rfl, w0⟩ := h2 0 _ rfl
  obtain ⟨_, e1, a1, rfl, w1⟩ := h2 1 _ rfl
  obtain ⟨_, e2, a2, rfl, w2⟩ := h2 2 _ rfl
  match hcs : cs.toList, h1 with
  | [c0, c1, c2], _ =>
    rw [hcs] at e0 e1 e2
    simp at e0 e1 e2
    rw [e0, e1, e2] at hcs
    exact ⟨⟨a0, a1, a2⟩, congrArg Value.agg (Array.ext' hcs), wf_i64 w0, wf_i64 w1, wf_i64 w2⟩
end
end Go.Proofs.Ythmldeningpjbaa
