/- What the functions of layer 9 compute, as plain Lean functions over whole numbers. No program is named here. -/
import Derived.Test.YtalcinepeofmcaaDoorRSp0
set_option linter.unusedVariables false
set_option linter.unusedSimpArgs false
namespace Go.Proofs.YtalcinepeofmcaaDoor.Pt
open Sp

structure Chn where
  grow : Int
  frost : Int
  clear : Int
deriving DecidableEq, Inhabited
structure Cal where
  hour : Int
  berth : Int
  out : Bool
  draught : Int
  most : Int
  tugs : Int
deriving DecidableEq, Inhabited
structure Swp where
  hour : Int
  channel : Int
  tugs : Int
deriving DecidableEq, Inhabited
structure Mp where
  add : Int
  floor : Int
  most : Int
deriving DecidableEq, Inhabited
structure Vst where
  arr : Int
  last : Int
  stay : Int
  dra : Int
deriving DecidableEq, Inhabited
structure Plc where
  berth : Int
  start : Int
deriving DecidableEq, Inhabited
abbrev NL : Int := 1000000000
abbrev BIG : Int := 100000000

/-- a map is one -/
def mright (m : Mp) : Bool := within m.add (-BIG) BIG && within m.floor 0 BIG && (within m.most (-1) BIG || decide (m.most = NL))
def applyE (m : Mp) (b : Int) : Int := if mright m = false then 1 else if within b 0 BIG = false then 6 else if m.most < b then 8 else 0
def applyN (m : Mp) (b : Int) : Int := if applyE m b = 0 then max (b + m.add) m.floor else 0
def joinL (a m : Mp) : Int := if a.most < 0 ∨ m.most < 0 ∨ (m.most ≠ NL ∧ m.most < a.floor) then -1 else if m.most ≠ NL then max (-1) (min a.most (m.most - a.add)) else a.most
def join1 (a m : Mp) : Mp := ⟨a.add + m.add, max (a.floor + m.add) m.floor, joinL a m⟩
def joinE (a b : Mp) : Int := if mright a = false ∨ mright b = false then 1 else if mright (join1 a b) = false then 6 else 0
def joinV (a b : Mp) : Mp := if joinE a b = 0 then join1 a b else ⟨0, 0, 0⟩
/-- a map of PortJoins -/
def small (m : Mp) : Prop := -200 ≤ m.add ∧ m.add ≤ 200 ∧ 0 ≤ m.floor ∧ m.floor ≤ 255 ∧ (m.most = -1 ∨ m.most = NL ∨ (0 ≤ m.most ∧ m.most ≤ 255))

theorem mright_iff {m : Mp} : mright m = true ↔ (-BIG ≤ m.add ∧ m.add ≤ BIG ∧ 0 ≤ m.floor ∧ m.floor ≤ BIG ∧ ((-1 ≤ m.most ∧ m.most ≤ BIG) ∨ m.most = NL)) := by
  simp [mright, within]; omega
theorem joinL_cases (a m : Mp) : (joinL a m = -1 ∧ (a.most < 0 ∨ m.most < 0 ∨ (m.most ≠ NL ∧ m.most < a.floor))) ∨
    ((0 ≤ a.most ∧ 0 ≤ m.most ∧ (m.most = NL ∨ a.floor ≤ m.most)) ∧ ((m.most ≠ NL ∧ ((a.most ≤ m.most - a.add ∧ joinL a m = a.most) ∨ (m.most - a.add < a.most ∧ -1 ≤ m.most - a.add ∧ joinL a m = m.most - a.add) ∨ (m.most - a.add < a.most ∧ m.most - a.add < -1 ∧ joinL a m = -1))) ∨ (m.most = NL ∧ joinL a m = a.most))) := by
  unfold joinL
  split
  · left; omega
  · right
    split
    · omega
    · omega
theorem join_small {a b : Mp} (ha : small a) (hb : small b) : mright a = true ∧ mright b = true ∧ mright (join1 a b) = true := by
  obtain ⟨a1, a2, a3, a4, a5⟩ := ha
  obtain ⟨b1, b2, b3, b4, b5⟩ := hb
  simp only [mright_iff, join1, NL, BIG] at *
  have := joinL_cases a b
  simp only [NL] at this
  omega
theorem joinL_lim {a m : Mp} (ha : -1 ≤ a.most) (hm : -1 ≤ m.most) {n : Int} (hn : 0 ≤ n) : n ≤ joinL a m ↔ (n ≤ a.most ∧ 0 ≤ m.most ∧ (m.most = NL ∨ (n + a.add ≤ m.most ∧ a.floor ≤ m.most))) := by
  have := joinL_cases a m
  simp only [NL] at *
  omega
theorem joinL_ge {a m : Mp} (ha : -1 ≤ a.most) : -1 ≤ joinL a m := by
  have := joinL_cases a m
  have := ha
  omega
theorem joinL_le {a m : Mp} (ha : -1 ≤ a.most) : joinL a m ≤ a.most := by
  have := joinL_cases a m
  omega
theorem eq_of_lims {p q : Int} (hp : -1 ≤ p) (hq : -1 ≤ q) (h : ∀ n, 0 ≤ n → (n ≤ p ↔ n ≤ q)) : p = q := by
  rcases Int.lt_trichotomy p q with h1 | h1 | h1
  · have := (h q (by omega)).2 (by omega); omega
  · exact h1
  · have := (h p (by omega)).1 (by omega); omega
/-- joining is associative as long as no Most that is a number is NoLimit -/
theorem joinL_assoc {a b c : Mp} (ha : -1 ≤ a.most) (hb : -1 ≤ b.most) (hc : -1 ≤ c.most) (fa : 0 ≤ a.floor) (fb : 0 ≤ b.floor)
    (hs : -BIG ≤ b.add) (hm : c.most = NL ∨ c.most ≤ BIG) (hq : joinL b c = NL ↔ (b.most = NL ∧ c.most = NL)) : joinL (join1 a b) c = joinL a (join1 b c) := by
  refine eq_of_lims (joinL_ge (joinL_ge ha)) (joinL_ge ha) fun n hn => ?_
  rw [joinL_lim (joinL_ge ha) hc hn, joinL_lim ha (joinL_ge hb) hn]
  have e1 := joinL_lim ha hb hn
  have e2 : ∀ k : Int, 0 ≤ k → _ := fun k hk => joinL_lim hb hc (n := k) hk
  have e3 := e2 (max (n + a.add) a.floor) (by omega)
  have e4 := e2 0 (by omega)
  have e5 := joinL_ge (m := c) hb
  have e6 := e2 a.floor fa
  simp only [join1] at *
  rw [e1, hq]
  generalize joinL b c = q at *
  generalize joinL a b = p at *
  clear e1
  simp only [NL, BIG] at *
  omega
theorem join_assoc {a b c : Mp} (ha : small a) (hb : small b) (hc : small c) : join1 (join1 a b) c = join1 a (join1 b c) ∧ mright (join1 (join1 a b) c) = true := by
  obtain ⟨a1, a2, a3, a4, a5⟩ := ha
  obtain ⟨b1, b2, b3, b4, b5⟩ := hb
  obtain ⟨c1, c2, c3, c4, c5⟩ := hc
  have e : joinL (join1 a b) c = joinL a (join1 b c) := by
    refine joinL_assoc (by simp only [NL] at *; omega) (by simp only [NL] at *; omega) (by simp only [NL] at *; omega) a3 b3 (by simp only [BIG]; omega) (by simp only [NL, BIG] at *; omega) ?_
    have := joinL_cases b c
    simp only [NL] at *
    omega
  refine ⟨?_, ?_⟩
  · simp only [join1] at e ⊢
    rw [e]
    congr 1
    · omega
    · omega
  · have h1 := joinL_cases a b
    have h3 := joinL_cases (join1 a b) c
    rw [mright_iff]
    simp only [join1, NL, BIG] at *
    refine ⟨by omega, by omega, by omega, by omega, ?_⟩
    clear e
    omega
/-- what a joined map does is what the two do -/
theorem apply_join {a b : Mp} (ha : small a) (hb : small b) {n : Int} (h0 : 0 ≤ n) (h1 : n < 600) :
    (applyE a n ≠ 0 → applyE a n = 8 ∧ applyE (join1 a b) n = 8) ∧ (applyE a n = 0 → applyE b (applyN a n) = applyE (join1 a b) n ∧ (applyE b (applyN a n) = 0 → applyN b (applyN a n) = applyN (join1 a b) n)) := by
  obtain ⟨r1, r2, r3⟩ := join_small ha hb
  obtain ⟨a1, a2, a3, a4, a5⟩ := ha
  obtain ⟨b1, b2, b3, b4, b5⟩ := hb
  have w1 : within n 0 BIG = true := by simp [within, BIG]; omega
  have w2 : within (max (n + a.add) a.floor) 0 BIG = true := by simp only [within, BIG, Bool.and_eq_true, decide_eq_true_eq]; omega
  have hl := joinL_lim (a := a) (m := b) (by simp only [NL] at *; omega) (by simp only [NL] at *; omega) h0
  have ea : applyE a n = if a.most < n then 8 else 0 := by unfold applyE; rw [r1, w1]; simp
  have eab : applyE (join1 a b) n = if joinL a b < n then 8 else 0 := by unfold applyE; rw [r3, w1]; simp only [join1]; rfl
  rw [ea, eab]
  refine ⟨fun h => ?_, fun h => ?_⟩
  · split at h
    · rename_i h2
      rw [if_pos (by omega), if_pos (by omega)]; exact ⟨rfl, rfl⟩
    · exact absurd rfl h
  · have h2 : ¬ a.most < n := fun h2 => by rw [if_pos h2] at h; cases h
    have en : applyN a n = max (n + a.add) a.floor := by unfold applyN; rw [ea, if_neg h2, if_pos rfl]
    have eb : applyE b (applyN a n) = if b.most < max (n + a.add) a.floor then 8 else 0 := by rw [en]; unfold applyE; rw [r2, w2]; simp
    have e : (b.most < max (n + a.add) a.floor) ↔ joinL a b < n := by
      simp only [NL] at *
      omega
    rw [eb]
    refine ⟨by simp only [e], fun h3 => ?_⟩
    have h4 : ¬ joinL a b < n := fun h4 => by rw [if_pos (e.2 h4)] at h3; cases h3
    unfold applyN
    rw [eab, if_neg h4, if_pos rfl, ea, if_neg h2, if_pos rfl]
    have : applyE b (max (n + a.add) a.floor) = 0 := by rw [← en]; rw [eb]; exact h3
    rw [this, if_pos rfl]
    simp only [join1]
    omega
end Go.Proofs.YtalcinepeofmcaaDoor.Pt
/- Plain law of hull (layer 3): curves, resistance, speeds; what is monotone. No program is named here. -/
namespace Go.Proofs.YtalcinepeofmcaaDoor.Hu
set_option linter.unusedVariables false

theorem mul_bd {a b A B : Int} (h1 : -A ≤ a ∧ a ≤ A) (h2 : -B ≤ b ∧ b ≤ B) : -(A * B) ≤ a * b ∧ a * b ≤ A * B := by
  have h := Nat.mul_le_mul (show a.natAbs ≤ A.toNat by omega) (show b.natAbs ≤ B.toNat by omega)
  rw [← Int.natAbs_mul] at h
  have e : A * B = ((A.toNat * B.toNat : Nat) : Int) := by rw [Int.natCast_mul, Int.toNat_of_nonneg (by omega), Int.toNat_of_nonneg (by omega)]
  rw [e]
  generalize A.toNat * B.toNat = n at *
  omega
structure Pnt where
  x : Int
  y : Int
structure Shp where
  cls : Int
  pow : Int
  dra : Int
  ton : Int
  thr : List Pnt
  wat : List Pnt
  ice : List Pnt
  slow : Int
  brash : Int
  ridge : Int
  press : Int
/-- the value of a curve, as a fraction -/
def val : List Pnt → Int → Int × Int
  | [], _ => (0, 1)
  | [a], _ => (a.y, 1)
  | a :: b :: l, x => if x ≤ b.x then (a.y * (b.x - a.x) + (b.y - a.y) * (x - a.x), b.x - a.x) else val (b :: l) x
def endX (l : List Pnt) : Int := (l.getLastD ⟨0, 0⟩).x
def thrS (s : Shp) (v : Int) : Int := (val s.thr v).1 / (val s.thr v).2
/-- an ice: con, thk, rid, prs -/
structure Ic where
  con : Int
  thk : Int
  rid : Int
  prs : Int
def resN (s : Shp) (i : Ic) (ch : Bool) (v : Int) : Int :=
  i.con * ((val s.ice i.thk).1 * (1000 + s.slow * v) * (if ch then s.brash else 100) + s.ridge * (if ch then 0 else i.rid) * (val s.ice i.thk).2 * 100000)
def resD (s : Shp) (i : Ic) : Int := (val s.ice i.thk).2 * 10000000
def resA (s : Shp) (i : Ic) (ch : Bool) (v : Int) : Int :=
  (val s.wat v).1 * resD s i + resN s i ch v * (val s.wat v).2 + s.press * i.prs * (val s.wat v).2 * resD s i
def resB (s : Shp) (i : Ic) (v : Int) : Int := (val s.wat v).2 * resD s i
def res (s : Shp) (i : Ic) (ch : Bool) (v : Int) : Int := (resA s i ch v + resB s i v - 1) / resB s i v
def makes (s : Shp) (i : Ic) (ch : Bool) (v : Int) : Bool := decide (v ≤ endX s.thr) && decide (res s i ch v ≤ thrS s v)
/-- a curve's points -/
structure Crv (l : List Pnt) : Prop where
  two : 2 ≤ l.length
  hd : ∀ p, l.head? = some p → p.x = 0
  rng : ∀ p ∈ l, 0 ≤ p.x ∧ p.x ≤ 400 ∧ 0 ≤ p.y ∧ p.y ≤ 20000
  inc : l.Pairwise (fun a b => a.x < b.x)
def Up (l : List Pnt) : Prop := l.Pairwise (fun a b => a.y ≤ b.y)
def Dn (l : List Pnt) : Prop := l.Pairwise (fun a b => b.y ≤ a.y)
def fle (p q : Int × Int) : Prop := p.1 * q.2 ≤ q.1 * p.2
def neg (l : List Pnt) : List Pnt := l.map fun p => ⟨p.x, -p.y⟩
theorem val_neg : ∀ (l : List Pnt) (x : Int), val (neg l) x = (-(val l x).1, (val l x).2)
  | [], _ => by simp [neg, val]
  | [a], _ => by simp [neg, val]
  | a :: b :: l, x => by
    have ih := val_neg (b :: l) x
    simp only [neg, List.map_cons, val] at ih ⊢
    split
    · simp only [Prod.mk.injEq, and_true]
      rw [Int.neg_add, Int.neg_mul, show -b.y - -a.y = -(b.y - a.y) by omega, Int.neg_mul]
    · exact ih
/-- denominators, and bounds of the value -/
theorem val_pos : ∀ {l : List Pnt} {x : Int}, l.Pairwise (fun a b => a.x < b.x) → 0 < (val l x).2
  | [], _, _ => by simp [val]
  | [a], _, _ => by simp [val]
  | a :: b :: l, x, h => by
    have h1 := (List.pairwise_cons.1 h).1 b (by simp)
    have ih := val_pos (l := b :: l) (x := x) (List.pairwise_cons.1 h).2
    unfold val
    split
    · simp only; omega
    · exact ih
theorem val_den {M : Int} (hM : 1 ≤ M) : ∀ {l : List Pnt} {x : Int}, (∀ p ∈ l, 0 ≤ p.x ∧ p.x ≤ M) → (val l x).2 ≤ M
  | [], _, _ => by simpa [val] using hM
  | [a], _, _ => by simpa [val] using hM
  | a :: b :: l, x, h => by
    have h1 := h a (by simp)
    have h2 := h b (by simp)
    have ih := val_den hM (l := b :: l) (x := x) (fun p hp => h p (by simp [hp]))
    unfold val
    split
    · simp only; omega
    · exact ih
theorem mix {p q c t D : Int} (h1 : c ≤ p) (h2 : c ≤ q) (t0 : 0 ≤ t) (t1 : t ≤ D) : c * D ≤ p * D + (q - p) * t := by
  have e : p * D + (q - p) * t = p * (D - t) + q * t := by rw [Int.mul_sub, Int.sub_mul]; omega
  have e2 : c * D = c * (D - t) + c * t := by rw [← Int.mul_add]; congr 1; omega
  rw [e, e2]
  have a1 := Int.mul_le_mul_of_nonneg_right h1 (show 0 ≤ D - t by omega)
  have a2 := Int.mul_le_mul_of_nonneg_right h2 t0
  omega
/-- the value is nowhere below a bound of all points -/
theorem val_lo {c : Int} : ∀ {l : List Pnt} {x : Int}, l ≠ [] → l.Pairwise (fun a b => a.x < b.x) → (∀ p ∈ l, c ≤ p.y) → (∀ p, l.head? = some p → p.x ≤ x) → c * (val l x).2 ≤ (val l x).1
  | [], _, h0, _, _, _ => absurd rfl h0
  | [a], _, _, _, h, _ => by simpa [val] using h a (by simp)
  | a :: b :: l, x, _, hi, h, hx => by
    have h1 := h a (by simp)
    have h2 := h b (by simp)
    have h3 := hx a rfl
    have h4 := (List.pairwise_cons.1 hi).1 b (by simp)
    unfold val
    split
    · exact mix h1 h2 (by omega) (by omega)
    · exact val_lo (by simp) (List.pairwise_cons.1 hi).2 (fun p hp => h p (by simp [hp])) (fun p hp => by simp at hp; subst hp; omega)
theorem val_hi {c : Int} {l : List Pnt} {x : Int} (h0 : l ≠ []) (hi : l.Pairwise (fun a b => a.x < b.x)) (h : ∀ p ∈ l, p.y ≤ c) (hx : ∀ p, l.head? = some p → p.x ≤ x) : (val l x).1 ≤ c * (val l x).2 := by
  have := val_lo (c := -c) (l := neg l) (x := x) (by simp [neg, h0]) (by rw [neg, List.pairwise_map]; exact hi) (fun p hp => by
    simp only [neg, List.mem_map] at hp
    obtain ⟨q, hq, rfl⟩ := hp
    have := h q hq
    simp only; omega) (fun p hp => by
    simp only [neg, List.head?_map, Option.map_eq_some_iff] at hp
    obtain ⟨q, hq, rfl⟩ := hp
    exact hx q hq)
  rw [val_neg] at this
  simp only [Int.neg_mul] at this
  omega
theorem mul3 {a b c : Int} (h : a ≤ b) (hc : 0 ≤ c) : a * c ≤ b * c := Int.mul_le_mul_of_nonneg_right h hc
/-- a curve that goes up: greater x, no less value -/
theorem val_up : ∀ {l : List Pnt} {u v : Int}, l.Pairwise (fun a b => a.x < b.x) → Up l → (∀ p, l.head? = some p → p.x ≤ u) → u ≤ v → fle (val l u) (val l v)
  | [], _, _, _, _, _, _ => by simp [fle, val]
  | [a], _, _, _, _, _, _ => by simp [fle, val]
  | a :: b :: l, u, v, hi, hu, hx, huv => by
    obtain ⟨i1, i2⟩ := List.pairwise_cons.1 hi
    obtain ⟨u1, u2⟩ := List.pairwise_cons.1 hu
    have hab := i1 b (by simp)
    have yab := u1 b (by simp)
    have hax := hx a rfl
    by_cases h1 : u ≤ b.x
    · have hd : 0 < b.x - a.x := by omega
      have e1 : val (a :: b :: l) u = (a.y * (b.x - a.x) + (b.y - a.y) * (u - a.x), b.x - a.x) := by unfold val; rw [if_pos h1]
      by_cases h2 : v ≤ b.x
      · have e2 : val (a :: b :: l) v = (a.y * (b.x - a.x) + (b.y - a.y) * (v - a.x), b.x - a.x) := by unfold val; rw [if_pos h2]
        rw [e1, e2]
        unfold fle
        simp only
        refine mul3 ?_ (by omega)
        have := Int.mul_le_mul_of_nonneg_left (show u - a.x ≤ v - a.x by omega) (show 0 ≤ b.y - a.y by omega)
        omega
      · have e2 : val (a :: b :: l) v = val (b :: l) v := by conv => lhs; unfold val; rw [if_neg h2]
        have hlo := val_lo (c := b.y) (l := b :: l) (x := v) (by simp) i2 (fun p hp => by
          rcases List.mem_cons.1 hp with rfl | hp
          · exact Int.le_refl _
          · exact (List.pairwise_cons.1 u2).1 p hp) (fun p hp => by simp at hp; subst hp; omega)
        have hp2 := val_pos (l := b :: l) (x := v) i2
        rw [e1, e2]
        unfold fle
        simp only
        -- n1 ≤ b.y * d1
        have g1 : a.y * (b.x - a.x) + (b.y - a.y) * (u - a.x) ≤ b.y * (b.x - a.x) := by
          have h3 := Int.mul_le_mul_of_nonneg_left (show u - a.x ≤ b.x - a.x by omega) (show 0 ≤ b.y - a.y by omega)
          have e : a.y * (b.x - a.x) + (b.y - a.y) * (b.x - a.x) = b.y * (b.x - a.x) := by rw [← Int.add_mul]; congr 1; omega
          omega
        have g2 := mul3 g1 (show 0 ≤ (val (b :: l) v).2 by omega)
        have g3 := mul3 hlo (show 0 ≤ b.x - a.x by omega)
        have e3 : b.y * (b.x - a.x) * (val (b :: l) v).2 = b.y * (val (b :: l) v).2 * (b.x - a.x) := by rw [Int.mul_assoc, Int.mul_assoc, Int.mul_comm (b.x - a.x)]
        omega
    · have e1 : val (a :: b :: l) u = val (b :: l) u := by conv => lhs; unfold val; rw [if_neg h1]
      have e2 : val (a :: b :: l) v = val (b :: l) v := by conv => lhs; unfold val; rw [if_neg (by omega)]
      rw [e1, e2]
      exact val_up i2 u2 (fun p hp => by simp at hp; subst hp; omega) huv
theorem val_dn {l : List Pnt} {u v : Int} (hi : l.Pairwise (fun a b => a.x < b.x)) (hd : Dn l) (hx : ∀ p, l.head? = some p → p.x ≤ u) (huv : u ≤ v) : fle (val l v) (val l u) := by
  have := val_up (l := neg l) (u := u) (v := v) (by rw [neg, List.pairwise_map]; exact hi) (by unfold Up; rw [neg, List.pairwise_map]; exact hd.imp fun h => by simp only; omega) (fun p hp => by
    simp only [neg, List.head?_map, Option.map_eq_some_iff] at hp
    obtain ⟨q, hq, rfl⟩ := hp
    exact hx q hq) huv
  rw [val_neg, val_neg] at this
  unfold fle at this ⊢
  simp only [Int.neg_mul] at this
  omega
theorem div_le_of {a b k : Int} (hb : 0 < b) : (a + b - 1) / b ≤ k ↔ a ≤ k * b := by
  constructor
  · intro h
    have h1 := Int.lt_mul_ediv_self_add (x := a + b - 1) hb
    have h2 := Int.mul_le_mul_of_nonneg_left h (show 0 ≤ b by omega)
    rw [Int.mul_comm b k] at h2
    omega
  · intro h
    have : (a + b - 1) / b < k + 1 := by
      refine Int.ediv_lt_of_lt_mul hb ?_
      rw [Int.add_mul]; omega
    omega
/-- a ship's curves are right -/
structure ShOk (s : Shp) : Prop where
  thr : Crv s.thr
  wat : Crv s.wat
  ice : Crv s.ice
  thrd : Dn s.thr
  watu : Up s.wat
  iceu : Up s.ice
  slow : 0 ≤ s.slow ∧ s.slow ≤ 20
  brash : 0 ≤ s.brash ∧ s.brash ≤ 100
  ridge : 0 ≤ s.ridge ∧ s.ridge ≤ 500
  press : 0 ≤ s.press ∧ s.press ≤ 5000
structure IcOk (i : Ic) : Prop where
  con : 0 ≤ i.con ∧ i.con ≤ 100
  thk : 0 ≤ i.thk ∧ i.thk ≤ 400
  rid : 0 ≤ i.rid ∧ i.rid ≤ 100
  prs : 0 ≤ i.prs ∧ i.prs ≤ 3
theorem Crv.ne {l : List Pnt} (h : Crv l) : l ≠ [] := fun e => by have := h.two; rw [e] at this; simp at this
theorem Crv.at {l : List Pnt} (h : Crv l) {x : Int} (hx : 0 ≤ x) : 0 < (val l x).2 ∧ (val l x).2 ≤ 400 ∧ 0 ≤ (val l x).1 ∧ (val l x).1 ≤ 20000 * (val l x).2 := by
  have hh : ∀ p, l.head? = some p → p.x ≤ x := fun p hp => by have := h.hd p hp; omega
  refine ⟨val_pos h.inc, val_den (by decide) (fun p hp => by have := h.rng p hp; omega), ?_, val_hi h.ne h.inc (fun p hp => (h.rng p hp).2.2.2) hh⟩
  have := val_lo (c := 0) h.ne h.inc (fun p hp => (h.rng p hp).2.2.1) hh
  omega
theorem Crv.hx {l : List Pnt} (h : Crv l) {x : Int} (hx : 0 ≤ x) : ∀ p, l.head? = some p → p.x ≤ x := fun p hp => by have := h.hd p hp; omega
theorem makes_iff {s : Shp} (h : ShOk s) (i : Ic) (ch : Bool) {v : Int} (hv : 0 ≤ v) (ht : 0 ≤ i.thk) : makes s i ch v = true ↔ v ≤ endX s.thr ∧ resA s i ch v ≤ thrS s v * resB s i v := by
  have hw := (h.wat.at hv).1
  have hi := (h.ice.at ht).1
  have hB : 0 < resB s i v := Int.mul_pos hw (by unfold resD; omega)
  unfold makes res
  rw [Bool.and_eq_true, decide_eq_true_eq, decide_eq_true_eq, div_le_of hB]
theorem thr_mono {s : Shp} (h : ShOk s) {u v : Int} (hu : 0 ≤ u) (huv : u ≤ v) : thrS s v ≤ thrS s u := by
  have h1 := val_dn h.thr.inc h.thrd (h.thr.hx hu) huv
  have p1 := (h.thr.at hu).1
  have p2 := (h.thr.at (x := v) (by omega)).1
  unfold fle at h1
  unfold thrS
  generalize (val s.thr v).1 = a at *
  generalize (val s.thr v).2 = b at *
  generalize (val s.thr u).1 = c at *
  generalize (val s.thr u).2 = d at *
  -- a * d ≤ c * b → a / b ≤ c / d
  refine Int.le_ediv_of_mul_le p1 ?_
  have h2 : a / b * b ≤ a := Int.ediv_mul_le a (by omega)
  have h3 := mul3 h2 (show 0 ≤ d by omega)
  have h4 : a / b * d * b ≤ c * b := by
    have e : a / b * b * d = a / b * d * b := by rw [Int.mul_assoc, Int.mul_assoc, Int.mul_comm b]
    omega
  exact Int.le_of_mul_le_mul_right h4 p2
/-- makes: so for all lesser speeds -/
theorem makes_v {s : Shp} (h : ShOk s) {i : Ic} (hi : IcOk i) (ch : Bool) {u v : Int} (hu : 0 ≤ u) (huv : u ≤ v) (hm : makes s i ch v = true) : makes s i ch u = true := by
  have hv : 0 ≤ v := by omega
  rw [makes_iff h i ch hv hi.thk.1] at hm
  rw [makes_iff h i ch hu hi.thk.1]
  refine ⟨by omega, ?_⟩
  have ht := thr_mono h hu huv
  obtain ⟨w1, w2, w3, w4⟩ := h.wat.at hu
  obtain ⟨y1, y2, y3, y4⟩ := h.wat.at hv
  obtain ⟨t1, t2, t3, t4⟩ := h.ice.at hi.thk.1
  have hw := val_up h.wat.inc h.watu (h.wat.hx hu) huv
  unfold fle at hw
  have hD : 0 < resD s i := by unfold resD; omega
  have hN : resN s i ch u ≤ resN s i ch v := by
    unfold resN
    refine Int.mul_le_mul_of_nonneg_left ?_ hi.con.1
    refine Int.add_le_add ?_ (Int.le_refl _)
    refine mul3 ?_ (by have := h.brash; split <;> omega)
    refine Int.mul_le_mul_of_nonneg_left ?_ t3
    have := Int.mul_le_mul_of_nonneg_left huv h.slow.1
    omega
  have hm2 := hm.2
  unfold resA resB at hm2 ⊢
  generalize resN s i ch u = N at *
  generalize resN s i ch v = M at *
  generalize resD s i = D at *
  generalize (val s.wat u).1 = a at *
  generalize (val s.wat u).2 = b at *
  generalize (val s.wat v).1 = c at *
  generalize (val s.wat v).2 = d at *
  generalize s.press * i.prs = P at *
  generalize thrS s v = tv at *
  generalize thrS s u = tu at *
  -- (a D + N b + P b D) ≤ tu (b D); from (c D + M d + P d D) ≤ tv (d D), a d ≤ c b, N ≤ M, tv ≤ tu
  refine Int.le_of_mul_le_mul_right ?_ y1
  have k1 : a * D * d ≤ c * D * b := by
    have := mul3 hw (show 0 ≤ D by omega)
    have e1 : a * D * d = a * d * D := by rw [Int.mul_assoc, Int.mul_assoc, Int.mul_comm D]
    have e2 : c * D * b = c * b * D := by rw [Int.mul_assoc, Int.mul_assoc, Int.mul_comm D]
    omega
  have k2 : N * b * d ≤ M * d * b := by
    have := mul3 (mul3 hN (show 0 ≤ b by omega)) (show 0 ≤ d by omega)
    have e : M * b * d = M * d * b := by rw [Int.mul_assoc, Int.mul_assoc, Int.mul_comm b]
    omega
  have k3 : P * b * D * d = P * d * D * b := by
    rw [Int.mul_assoc, Int.mul_assoc, Int.mul_assoc, Int.mul_assoc, Int.mul_comm b, Int.mul_comm d, Int.mul_assoc, Int.mul_assoc, Int.mul_comm d b]
  have k4 := mul3 hm2 (show 0 ≤ b by omega)
  have k5 : tv * (d * D) * b ≤ tu * (b * D) * d := by
    have h0 : 0 ≤ d * D * b := Int.mul_nonneg (Int.mul_nonneg (by omega) (by omega)) (by omega)
    have := mul3 ht h0
    have e1 : tv * (d * D) * b = tv * (d * D * b) := by rw [Int.mul_assoc]
    have e2 : tu * (b * D) * d = tu * (d * D * b) := by rw [Int.mul_assoc, Int.mul_comm (b * D) d, ← Int.mul_assoc d b D, Int.mul_assoc d D b, Int.mul_comm D b, ← Int.mul_assoc d b D]
    omega
  rw [Int.add_mul, Int.add_mul]
  rw [Int.add_mul, Int.add_mul] at k4
  omega
/-- .. and in ice that is nowhere thicker -/
theorem makes_t {s : Shp} (h : ShOk s) {con rid prs : Int} (hc : 0 ≤ con) (ch : Bool) {v t u : Int} (hv : 0 ≤ v) (ht : 0 ≤ t) (htu : t ≤ u) (hr : 0 ≤ rid) (hm : makes s ⟨con, u, rid, prs⟩ ch v = true) : makes s ⟨con, t, rid, prs⟩ ch v = true := by
  have hu : 0 ≤ u := by omega
  rw [makes_iff h _ ch hv hu] at hm
  rw [makes_iff h _ ch hv ht]
  refine ⟨hm.1, ?_⟩
  obtain ⟨w1, w2, w3, w4⟩ := h.wat.at hv
  obtain ⟨t1, t2, t3, t4⟩ := h.ice.at ht
  obtain ⟨u1, u2, u3, u4⟩ := h.ice.at hu
  have hw := val_up h.ice.inc h.iceu (h.ice.hx ht) htu
  unfold fle at hw
  have hm2 := hm.2
  unfold resA resB resN resD at hm2 ⊢
  simp only at hm2 ⊢
  generalize (val s.ice t).1 = a at *
  generalize (val s.ice t).2 = b at *
  generalize (val s.ice u).1 = c at *
  generalize (val s.ice u).2 = d at *
  generalize (val s.wat v).1 = wn at *
  generalize (val s.wat v).2 = wd at *
  have hs : 0 ≤ (if ch then s.brash else 100) := by have := h.brash; split <;> omega
  have hs2 : 0 ≤ 1000 + s.slow * v := by have := Int.mul_nonneg h.slow.1 hv; omega
  generalize (if ch then s.brash else 100) = sh at *
  generalize 1000 + s.slow * v = sv at *
  generalize s.ridge * (if ch then 0 else rid) = R at *
  generalize s.press * prs = P at *
  generalize thrS s v = T at *
  refine Int.le_of_mul_le_mul_right ?_ u1
  have k4 := mul3 hm2 (show 0 ≤ b by omega)
  have e1 : wn * (b * 10000000) * d = wn * (d * 10000000) * b := by
    rw [Int.mul_assoc, Int.mul_assoc wn]; congr 1
    rw [Int.mul_comm b, Int.mul_comm d, Int.mul_assoc, Int.mul_assoc, Int.mul_comm b d]
  have e3 : P * wd * (b * 10000000) * d = P * wd * (d * 10000000) * b := by
    rw [Int.mul_assoc, Int.mul_assoc (P * wd)]; congr 1
    rw [Int.mul_comm b, Int.mul_comm d, Int.mul_assoc, Int.mul_assoc, Int.mul_comm b d]
  have e4 : T * (wd * (b * 10000000)) * d = T * (wd * (d * 10000000)) * b := by
    rw [Int.mul_assoc, Int.mul_assoc T]; congr 1
    rw [Int.mul_assoc, Int.mul_assoc wd]; congr 1
    rw [Int.mul_comm b, Int.mul_comm d, Int.mul_assoc, Int.mul_assoc, Int.mul_comm b d]
  have k2 : con * (a * sv * sh + R * b * 100000) * wd * d ≤ con * (c * sv * sh + R * d * 100000) * wd * b := by
    have g1 : (a * sv * sh + R * b * 100000) * d ≤ (c * sv * sh + R * d * 100000) * b := by
      rw [Int.add_mul, Int.add_mul]
      have h1 := mul3 (mul3 hw hs2) hs
      have f1 : a * sv * sh * d = a * d * sv * sh := by rw [Int.mul_assoc a, Int.mul_assoc, Int.mul_comm (sv * sh) d, ← Int.mul_assoc, ← Int.mul_assoc]
      have f2 : c * sv * sh * b = c * b * sv * sh := by rw [Int.mul_assoc c, Int.mul_assoc, Int.mul_comm (sv * sh) b, ← Int.mul_assoc, ← Int.mul_assoc]
      have f3 : R * b * 100000 * d = R * d * 100000 * b := by rw [Int.mul_right_comm (R * b) 100000 d, Int.mul_right_comm R b d, Int.mul_right_comm (R * d) 100000 b]
      omega
    have g2 := Int.mul_le_mul_of_nonneg_left g1 (Int.mul_nonneg hc (show 0 ≤ wd by omega))
    have f1 : ∀ X Y : Int, con * X * wd * Y = con * wd * (X * Y) := fun X Y => by
      rw [Int.mul_assoc con X, Int.mul_comm X wd, ← Int.mul_assoc con, Int.mul_assoc]
    rw [f1, f1]
    exact g2
  rw [Int.add_mul, Int.add_mul]
  rw [Int.add_mul, Int.add_mul] at k4
  omega
end Go.Proofs.YtalcinepeofmcaaDoor.Hu
/- What the functions of layer 9 compute, further: ports, plans, and what plans do. -/
namespace Go.Proofs.YtalcinepeofmcaaDoor.Pt
open Sp

structure Brt where
  depth : Int
  path : List Int
deriving DecidableEq, Inhabited
structure Prt where
  chs : List Chn
  bts : List Brt
  tugs : Int
deriving DecidableEq, Inhabited
structure Pln where
  hours : Int
  calls : List Cal
  swps : List Swp
deriving DecidableEq, Inhabited
structure Stt where
  brash : List Int
  busy : List Bool
deriving DecidableEq, Inhabited

/-- a list of numbers at a number, and with another number there -/
def getI (l : List Int) (i : Int) : Int := l.getD i.toNat 0
def setI (l : List Int) (i : Int) (x : Int) : List Int := l.set i.toNat x
theorem setI_length (l : List Int) (i x : Int) : (setI l i x).length = l.length := by simp [setI]
def ch (p : Prt) (i : Int) : Chn := p.chs.getD i.toNat default
def bt (p : Prt) (i : Int) : Brt := p.bts.getD i.toNat default

def chOk (c : Chn) : Bool := within c.grow 0 100 && within c.frost 0 20 && within c.clear 1 200
/-- the first k channels of a path are channels, and each comes once -/
def pathOk (n : Int) (l : List Int) : Nat → Bool
  | 0 => true
  | k + 1 => pathOk n l k && (within (l.getD k 0) 0 (n - 1) && !(l.take k).contains (l.getD k 0))
def btOk (n : Int) (b : Brt) : Bool := within b.depth 10 3000 && (!decide (b.path.length = 0) && pathOk n b.path b.path.length)
def checkP (p : Prt) : Int :=
  if (within p.chs.length 1 6 && within p.bts.length 1 4) = false then 2
  else if within p.tugs 0 20 = false then 100
  else if p.chs.all chOk = false then 100
  else if p.bts.all (btOk p.chs.length) = false then 100 else 0

def callE (p : Prt) (hours : Int) (c : Cal) (before : Int) : Int :=
  if (within c.berth 0 ((p.bts.length : Int) - 1) && (within c.most 0 1000000 && within c.tugs 0 20)) = false then 1
  else if within c.draught 10 (bt p c.berth).depth = false then 100
  else if within c.hour 0 (hours - 1) = false then 12
  else if c.hour < before then 11 else 0
def callsE (p : Prt) (hours : Int) : Int → List Cal → Int
  | _, [] => 0
  | before, c :: l => if callE p hours c before ≠ 0 then callE p hours c before else callsE p hours c.hour l
def swpE (p : Prt) (hours : Int) (s : Swp) : Int :=
  if (within s.channel 0 ((p.chs.length : Int) - 1) && within s.tugs 1 20) = false then 1
  else if within s.hour 0 (hours - 1) = false then 12 else 0
def swpsE (p : Prt) (hours : Int) : List Swp → Int
  | [] => 0
  | s :: l => if swpE p hours s ≠ 0 then swpE p hours s else swpsE p hours l

/-- which channels calls go through, hour by hour -/
def hitsOf (p : Prt) (c : Cal) : List (Int × Int) := (bt p c.berth).path.map fun n => (c.hour, n)
/-- tugs, whether a channel is gone through twice, what is gone through: after some more channels of a call's path -/
structure Tly where
  tugs : List Int
  twice : List Bool
  hits : List (Int × Int)
def hit1 (h : Int) (t : Tly) (n : Int) : Tly := ⟨t.tugs, t.twice.set h.toNat (t.twice.getD h.toNat false || decide (1 < (t.hits.count (h, n) + 1))), (h, n) :: t.hits⟩
def tlyCall (p : Prt) (t : Tly) (c : Cal) : Tly := (bt p c.berth).path.foldl (hit1 c.hour) ⟨setI t.tugs c.hour (getI t.tugs c.hour + c.tugs), t.twice, t.hits⟩
def tly0 (hours : Nat) : Tly := ⟨List.replicate hours 0, List.replicate hours false, []⟩
def tlyCalls (p : Prt) (hours : Nat) (l : List Cal) : Tly := l.foldl (tlyCall p) (tly0 hours)
def addSwp (t : List Int) (s : Swp) : List Int := setI t s.hour (getI t s.hour + s.tugs)
/-- the error of the hours from k on -/
def finE (tg : Int) (ts : List Int) (tw : List Bool) : Nat → Nat → Int
  | _, 0 => 0
  | k, n + 1 => if tw.getD k false then 10 else if tg < ts.getD k 0 then 9 else finE tg ts tw (k + 1) n
def checkL (p : Prt) (l : Pln) : Int :=
  if checkP p ≠ 0 then checkP p
  else if 60 < l.calls.length ∨ 200 < l.swps.length then 2
  else if within l.hours 1 100 = false then 6
  else if callsE p l.hours 0 l.calls ≠ 0 then callsE p l.hours 0 l.calls
  else if swpsE p l.hours l.swps ≠ 0 then swpsE p l.hours l.swps
  else finE p.tugs (l.swps.foldl addSwp (tlyCalls p l.hours.toNat l.calls).tugs) (tlyCalls p l.hours.toNat l.calls).twice 0 l.hours.toNat

/-- the error of a port, a state and a plan -/
def startE (p : Prt) (s : Stt) (l : Pln) : Int :=
  if checkL p l ≠ 0 then checkL p l
  else if s.brash.length ≠ p.chs.length ∨ s.busy.length ≠ p.bts.length ∨ s.brash.any (fun n => !within n 0 1000000) = true then 1 else 0

/-- what an hour does -/
def swp1 (p : Prt) (h : Int) (b : List Int) (s : Swp) : List Int := if s.hour = h then setI b s.channel (max 0 (getI b s.channel - s.tugs * (ch p s.channel).clear)) else b
def swpN (p : Prt) (h : Int) (l : List Swp) (b : List Int) : List Int := l.foldl (swp1 p h) b
def grow1 (p : Prt) (b : List Int) (n : Int) : List Int := setI b n (getI b n + (ch p n).grow)
def growN (p : Prt) (path : List Int) (b : List Int) : List Int := path.foldl (grow1 p) b
/-- the calls of an hour, from the i-th on: the index of the first one that cannot, the error, the state -/
def callsN (p : Prt) (h : Int) : List Cal → Nat → Stt → Nat × Int × Stt
  | [], i, s => (i, 0, s)
  | c :: l, i, s =>
    if c.hour ≠ h then callsN p h l (i + 1) s
    else if s.busy.getD c.berth.toNat false ≠ c.out then (i, 9, s)
    else if (bt p c.berth).path.any (fun n => decide (c.most < getI s.brash n)) = true then (i, 8, s)
    else callsN p h l (i + 1) ⟨growN p (bt p c.berth).path s.brash, s.busy.set c.berth.toNat (!c.out)⟩
def frostN (p : Prt) (b : List Int) : Nat → List Int
  | 0 => b
  | k + 1 => setI (frostN p b k) k (getI (frostN p b k) k + (ch p k).frost)
def frostL (p : Prt) (b : List Int) : List Int := frostN p b p.chs.length
def hourR (p : Prt) (l : Pln) (h : Nat) (s : Stt) : Nat × Int × Stt := callsN p h l.calls 0 ⟨swpN p h l.swps s.brash, s.busy⟩
def hourS (p : Prt) (l : Pln) (h : Nat) (s : Stt) : Stt := ⟨frostL p (hourR p l h s).2.2.brash, (hourR p l h s).2.2.busy⟩
/-- the state at the beginning of hour k, if nothing is refused before -/
def stN (p : Prt) (l : Pln) (s : Stt) : Nat → Stt
  | 0 => s
  | k + 1 => hourS p l k (stN p l s k)
/-- n more hours from hour k on: the index, and the error -/
def runF (p : Prt) (l : Pln) (s : Stt) : Nat → Nat → Nat × Int
  | _, 0 => (l.calls.length, 0)
  | k, n + 1 => if (hourR p l k (stN p l s k)).2.1 ≠ 0 then ((hourR p l k (stN p l s k)).1, (hourR p l k (stN p l s k)).2.1) else runF p l s (k + 1) n
def runR (p : Prt) (l : Pln) (s : Stt) : Nat × Int := runF p l s 0 l.hours.toNat

/-- the maps of a channel -/
def mapsH (p : Prt) (l : Pln) (c : Int) (h : Nat) : List Mp :=
  (l.swps.filter fun s => decide (s.hour = (h : Int)) && decide (s.channel = c)).map (fun s => ⟨-s.tugs * (ch p c).clear, 0, NL⟩)
  ++ ((l.calls.filter fun x => decide (x.hour = (h : Int)) && (bt p x.berth).path.contains c).map (fun x => ⟨(ch p c).grow, (ch p c).grow, x.most⟩)
  ++ [⟨(ch p c).frost, (ch p c).frost, NL⟩])
def mapsS (p : Prt) (l : Pln) (c : Int) : List Mp := (List.range l.hours.toNat).flatMap (mapsH p l c)
def id1 : Mp := ⟨0, 0, NL⟩
def foldS (p : Prt) (l : Pln) (c : Int) : Mp := (mapsS p l c).foldl join1 id1
def foldE (p : Prt) (l : Pln) (c : Int) : Int := if checkL p l ≠ 0 then checkL p l else if within c 0 ((p.chs.length : Int) - 1) = false then 1 else 0

/-- in turns: the calls of a berth -/
def turnsL : List Bool → Bool
  | [] => true
  | [_] => true
  | a :: b :: l => decide (a ≠ b) && turnsL (b :: l)
def outsOf (l : Pln) (b : Int) : List Bool := (l.calls.filter fun c => decide (c.berth = b)).map (·.out)
def turnsB (l : Pln) (b : Int) : Bool := turnsL (outsOf l b) && decide ((outsOf l b).length % 2 = 0)
def turnsN (l : Pln) : Nat → Bool
  | 0 => true
  | k + 1 => turnsN l k && turnsB l k
def turns (p : Prt) (l : Pln) : Bool := turnsN l p.bts.length

def staysBad (m : Mp) : Bool := decide (m.most ≠ NL) && (decide (0 < m.add) || decide (m.most < m.floor))
def folds (p : Prt) (l : Pln) : List Mp := (List.range p.chs.length).map fun (c : Nat) => foldS p l c
def staysE (p : Prt) (l : Pln) : Int :=
  if checkL p l ≠ 0 then checkL p l else if turns p l = false then 9 else if (folds p l).any staysBad = true then 4 else 0
def staysV (p : Prt) (l : Pln) : List Int := if staysE p l = 0 then (folds p l).map (·.most) else []

def keepsV (p : Prt) (s : Stt) (l : Pln) : Bool :=
  decide (startE p s l = 0) && (decide ((runR p l s).2 = 0) && (decide ((stN p l s l.hours.toNat).busy = s.busy) && (List.range p.chs.length).all (fun i => decide ((stN p l s l.hours.toNat).brash.getD i 0 ≤ s.brash.getD i 0))))

def rounds (m : Mp) : Int :=
  if m.most = NL ∨ (m.add ≤ 0 ∧ max m.add m.floor ≤ m.most) then -1
  else if m.most < 0 then 0
  else if m.most < max m.add m.floor then 1
  else 2 + (m.most - max m.add m.floor).tdiv m.add
/-- the least number of rounds, and the channel, among the first k maps -/
def wornN (l : List Mp) : Nat → Int × Int
  | 0 => (-1, 0)
  | k + 1 => let n := rounds (l.getD k default); if 0 ≤ n ∧ ((wornN l k).1 < 0 ∨ n < (wornN l k).1) then (n, (k : Int)) else wornN l k
def wornR (p : Prt) (l : Pln) : Int × Int := wornN (folds p l) p.chs.length
def wornE (p : Prt) (l : Pln) : Int := if checkL p l ≠ 0 then checkL p l else if (wornR p l).1 < 0 then 4 else 0
end Go.Proofs.YtalcinepeofmcaaDoor.Pt
/- Plain law of layer 9: what a plan does to a channel is what its map says. No program is named here. -/
namespace Go.Proofs.YtalcinepeofmcaaDoor.Pt
open Sp

/-- a map lets a brash through -/
def limOk (m : Mp) (b : Int) : Prop := m.most = NL ∨ b ≤ m.most
def ap (m : Mp) (b : Int) : Int := max (b + m.add) m.floor
/-- a map of something that changes a brash: its Most is none, or small; Add is not far below 0 -/
structure Gm (m : Mp) : Prop where
  add : -4000 ≤ m.add ∧ m.add ≤ 100
  flo : 0 ≤ m.floor ∧ m.floor ≤ 100
  lo : 0 ≤ m.most
  hi : m.most = NL ∨ m.most ≤ 1000000
/-- a map that was joined of at most k of these -/
structure Jm (k : Nat) (m : Mp) : Prop where
  add : -(4000 * (k : Int)) ≤ m.add ∧ m.add ≤ 100 * k
  flo : 0 ≤ m.floor ∧ m.floor ≤ 100 * k
  lo : -1 ≤ m.most
  hi : m.most ≤ NL
  lt : m.most = NL ∨ m.most ≤ 1000000 + 4000 * k

theorem join_sem {k : Nat} {a m : Mp} (ha : Jm k a) (hm : Gm m) (hk : k ≤ 800) {b : Int} (hb : 0 ≤ b) :
    (limOk (join1 a m) b ↔ limOk a b ∧ limOk m (ap a b)) ∧ ap (join1 a m) b = ap m (ap a b) ∧ Jm (k + 1) (join1 a m) := by
  obtain ⟨⟨a1, a1'⟩, ⟨a2, a2'⟩, a3, a4, a5⟩ := ha
  obtain ⟨⟨m1, m1'⟩, ⟨m2, m2'⟩, m3, m4⟩ := hm
  have h := joinL_cases a m
  refine ⟨?_, ?_, ?_⟩
  · simp only [limOk, ap, join1, NL] at *
    omega
  · simp only [ap, join1]
    omega
  · refine ⟨?_, ?_, ?_, ?_, ?_⟩ <;> simp only [join1, NL] at * <;> omega

def seqOk : List Mp → Int → Prop
  | [], _ => True
  | m :: l, b => limOk m b ∧ seqOk l (ap m b)
def seqAp (l : List Mp) (b : Int) : Int := l.foldl (fun b m => ap m b) b
theorem ap_ge {m : Mp} (hm : Gm m) (b : Int) : 0 ≤ ap m b := by have := hm.flo.1; simp only [ap]; omega
theorem seqAp_append (l l' : List Mp) (b : Int) : seqAp (l ++ l') b = seqAp l' (seqAp l b) := by simp [seqAp]
theorem seqOk_append (l l' : List Mp) (b : Int) : seqOk (l ++ l') b ↔ seqOk l b ∧ seqOk l' (seqAp l b) := by
  induction l generalizing b with
  | nil => simp [seqOk, seqAp]
  | cons m l ih =>
    rw [List.cons_append, seqOk, seqOk, ih, and_assoc]
    rfl
theorem seqAp_ge {l : List Mp} (hl : ∀ m ∈ l, Gm m) {b : Int} (hb : 0 ≤ b) : 0 ≤ seqAp l b := by
  induction l generalizing b with
  | nil => exact hb
  | cons m l ih => exact ih (fun x hx => hl x (by simp [hx])) (ap_ge (hl m (by simp)) b)
theorem fold_sem {l : List Mp} (hl : ∀ m ∈ l, Gm m) : ∀ {k : Nat} {a : Mp}, Jm k a → k + l.length ≤ 800 → ∀ {b : Int}, 0 ≤ b →
    (limOk (l.foldl join1 a) b ↔ limOk a b ∧ seqOk l (ap a b)) ∧ ap (l.foldl join1 a) b = seqAp l (ap a b) := by
  induction l with
  | nil => intro k a _ _ b _; simp [seqOk, seqAp]
  | cons m l ih =>
    intro k a ha hk b hb
    simp only [List.length_cons] at hk
    obtain ⟨h1, h2, h3⟩ := join_sem ha (hl m (by simp)) (by omega) hb
    obtain ⟨h4, h5⟩ := ih (fun x hx => hl x (by simp [hx])) h3 (by omega) hb
    rw [List.foldl_cons, h4, h1, h5, h2]
    refine ⟨?_, rfl⟩
    simp only [seqOk]
    constructor
    · rintro ⟨⟨x, y⟩, z⟩; exact ⟨x, y, z⟩
    · rintro ⟨x, y, z⟩; exact ⟨⟨x, y⟩, z⟩
theorem fold_jm {l : List Mp} (hl : ∀ m ∈ l, Gm m) : ∀ {k : Nat} {a : Mp}, Jm k a → k + l.length ≤ 800 → Jm (k + l.length) (l.foldl join1 a) := by
  induction l with
  | nil => intro k a ha _; exact ha
  | cons m l ih =>
    intro k a ha hk
    simp only [List.length_cons] at hk
    obtain ⟨_, _, h3⟩ := join_sem ha (hl m (by simp)) (by omega) (Int.le_refl 0)
    have := ih (fun x hx => hl x (by simp [hx])) h3 (by omega)
    rw [List.foldl_cons, List.length_cons, show k + (l.length + 1) = k + 1 + l.length from by omega]
    exact this
theorem id_jm : Jm 0 id1 := ⟨by decide, by decide, by decide, by decide, .inl rfl⟩
/-- joined from nothing -/
theorem fold_id {l : List Mp} (hl : ∀ m ∈ l, Gm m) (hk : l.length ≤ 800) {b : Int} (hb : 0 ≤ b) :
    (limOk (l.foldl join1 id1) b ↔ seqOk l b) ∧ ap (l.foldl join1 id1) b = seqAp l b := by
  obtain ⟨h1, h2⟩ := fold_sem hl id_jm (by omega) hb
  have e : ap id1 b = b := by simp only [ap, id1]; omega
  rw [e] at h1 h2
  exact ⟨by rw [h1]; simp [limOk, id1], h2⟩
end Go.Proofs.YtalcinepeofmcaaDoor.Pt
