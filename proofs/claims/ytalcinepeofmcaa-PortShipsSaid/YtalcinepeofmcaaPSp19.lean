import Derived.Test.YtalcinepeofmcaaPSp0
import Derived.Test.YtalcinepeofmcaaPSp3
import Derived.Test.YtalcinepeofmcaaPSp9
import Derived.Test.YtalcinepeofmcaaPSp2
set_option linter.unusedVariables false
set_option linter.unusedSimpArgs false
set_option maxRecDepth 100000
set_option maxHeartbeats 40000000
namespace Go.Proofs.Ytalcinepeofmcaa.Hu
theorem mul_bd {a b A B : Int} (h1 : -A ≤ a ∧ a ≤ A) (h2 : -B ≤ b ∧ b ≤ B) : -(A * B) ≤ a * b ∧ a * b ≤ A * B := by
  have h := Nat.mul_le_mul (show a.natAbs ≤ A.toNat by omega) (show b.natAbs ≤ B.toNat by omega);rw [← Int.natAbs_mul] at h;have e : A * B = ((A.toNat * B.toNat : Nat) : Int) := by rw [Int.natCast_mul, Int.toNat_of_nonneg (by omega), Int.toNat_of_nonneg (by omega)]
  rw [e];generalize A.toNat * B.toNat = n at *;omega
structure Pnt where
  x : Int
  y : Int
structure Shp where
  cls : Int
  pow : Int
  dra : Int
  ton : Int
  thr : List Pnt
  wat : List Pnt
  ice : List Pnt
  slow : Int
  brash : Int
  ridge : Int
  press : Int
def val : List Pnt → Int → Int × Int
  | [], _ => (0, 1)
  | [a], _ => (a.y, 1)
  | a :: b :: l, x => if x ≤ b.x then (a.y * (b.x - a.x) + (b.y - a.y) * (x - a.x), b.x - a.x) else val (b :: l) x
def endX (l : List Pnt) : Int := (l.getLastD ⟨0, 0⟩).x
def thrS (s : Shp) (v : Int) : Int := (val s.thr v).1 / (val s.thr v).2
structure Ic where
  con : Int
  thk : Int
  rid : Int
  prs : Int
def resN (s : Shp) (i : Ic) (ch : Bool) (v : Int) : Int :=
  i.con * ((val s.ice i.thk).1 * (1000 + s.slow * v) * (if ch then s.brash else 100) + s.ridge * (if ch then 0 else i.rid) * (val s.ice i.thk).2 * 100000)
def resD (s : Shp) (i : Ic) : Int := (val s.ice i.thk).2 * 10000000
def resA (s : Shp) (i : Ic) (ch : Bool) (v : Int) : Int :=
  (val s.wat v).1 * resD s i + resN s i ch v * (val s.wat v).2 + s.press * i.prs * (val s.wat v).2 * resD s i
def resB (s : Shp) (i : Ic) (v : Int) : Int := (val s.wat v).2 * resD s i
def res (s : Shp) (i : Ic) (ch : Bool) (v : Int) : Int := (resA s i ch v + resB s i v - 1) / resB s i v
def makes (s : Shp) (i : Ic) (ch : Bool) (v : Int) : Bool := decide (v ≤ endX s.thr) && decide (res s i ch v ≤ thrS s v)
structure Crv (l : List Pnt) : Prop where
  two : 2 ≤ l.length
  hd : ∀ p, l.head? = some p → p.x = 0
  rng : ∀ p ∈ l, 0 ≤ p.x ∧ p.x ≤ 400 ∧ 0 ≤ p.y ∧ p.y ≤ 20000
  inc : l.Pairwise (fun a b => a.x < b.x)
def Up (l : List Pnt) : Prop := l.Pairwise (fun a b => a.y ≤ b.y)
def Dn (l : List Pnt) : Prop := l.Pairwise (fun a b => b.y ≤ a.y)
def fle (p q : Int × Int) : Prop := p.1 * q.2 ≤ q.1 * p.2
def neg (l : List Pnt) : List Pnt := l.map fun p => ⟨p.x, -p.y⟩
theorem val_neg : ∀ (l : List Pnt) (x : Int), val (neg l) x = (-(val l x).1, (val l x).2)
  | [], _ => by simp [neg, val]
  | [a], _ => by simp [neg, val]
  | a :: b :: l, x => by
    have ih := val_neg (b :: l) x;simp only [neg, List.map_cons, val] at ih ⊢;split
    · simp only [Prod.mk.injEq, and_true];rw [Int.neg_add, Int.neg_mul, show -b.y - -a.y = -(b.y - a.y) by omega, Int.neg_mul]
    · exact ih
theorem val_pos : ∀ {l : List Pnt} {x : Int}, l.Pairwise (fun a b => a.x < b.x) → 0 < (val l x).2
  | [], _, _ => by simp [val]
  | [a], _, _ => by simp [val]
  | a :: b :: l, x, h => by
    have h1 := (List.pairwise_cons.1 h).1 b (by simp);have ih := val_pos (l := b :: l) (x := x) (List.pairwise_cons.1 h).2;unfold val;split
    · simp only; omega
    · exact ih
theorem val_den {M : Int} (hM : 1 ≤ M) : ∀ {l : List Pnt} {x : Int}, (∀ p ∈ l, 0 ≤ p.x ∧ p.x ≤ M) → (val l x).2 ≤ M
  | [], _, _ => by simpa [val] using hM
  | [a], _, _ => by simpa [val] using hM
  | a :: b :: l, x, h => by
    have h1 := h a (by simp);have h2 := h b (by simp);have ih := val_den hM (l := b :: l) (x := x) (fun p hp => h p (by simp [hp]));unfold val;split
    · simp only; omega
    · exact ih
theorem mix {p q c t D : Int} (h1 : c ≤ p) (h2 : c ≤ q) (t0 : 0 ≤ t) (t1 : t ≤ D) : c * D ≤ p * D + (q - p) * t := by
  have e : p * D + (q - p) * t = p * (D - t) + q * t := by rw [Int.mul_sub, Int.sub_mul]; omega
  have e2 : c * D = c * (D - t) + c * t := by rw [← Int.mul_add]; congr 1; omega
  rw [e, e2];have a1 := Int.mul_le_mul_of_nonneg_right h1 (show 0 ≤ D - t by omega);have a2 := Int.mul_le_mul_of_nonneg_right h2 t0;omega
theorem val_lo {c : Int} : ∀ {l : List Pnt} {x : Int}, l ≠ [] → l.Pairwise (fun a b => a.x < b.x) → (∀ p ∈ l, c ≤ p.y) → (∀ p, l.head? = some p → p.x ≤ x) → c * (val l x).2 ≤ (val l x).1
  | [], _, h0, _, _, _ => absurd rfl h0
  | [a], _, _, _, h, _ => by simpa [val] using h a (by simp)
  | a :: b :: l, x, _, hi, h, hx => by
    have h1 := h a (by simp);have h2 := h b (by simp);have h3 := hx a rfl;have h4 := (List.pairwise_cons.1 hi).1 b (by simp);unfold val;split
    · exact mix h1 h2 (by omega) (by omega)
    · exact val_lo (by simp) (List.pairwise_cons.1 hi).2 (fun p hp => h p (by simp [hp])) (fun p hp => by simp at hp; subst hp; omega)
theorem val_hi {c : Int} {l : List Pnt} {x : Int} (h0 : l ≠ []) (hi : l.Pairwise (fun a b => a.x < b.x)) (h : ∀ p ∈ l, p.y ≤ c) (hx : ∀ p, l.head? = some p → p.x ≤ x) : (val l x).1 ≤ c * (val l x).2 := by
  have := val_lo (c := -c) (l := neg l) (x := x) (by simp [neg, h0]) (by rw [neg, List.pairwise_map]; exact hi) (fun p hp => by
    simp only [neg, List.mem_map] at hp;obtain ⟨q, hq, rfl⟩ := hp;have := h q hq;simp only; omega) (fun p hp => by
    simp only [neg, List.head?_map, Option.map_eq_some_iff] at hp;obtain ⟨q, hq, rfl⟩ := hp;exact hx q hq)
  rw [val_neg] at this;simp only [Int.neg_mul] at this;omega
theorem mul3 {a b c : Int} (h : a ≤ b) (hc : 0 ≤ c) : a * c ≤ b * c := Int.mul_le_mul_of_nonneg_right h hc
theorem val_up : ∀ {l : List Pnt} {u v : Int}, l.Pairwise (fun a b => a.x < b.x) → Up l → (∀ p, l.head? = some p → p.x ≤ u) → u ≤ v → fle (val l u) (val l v)
  | [], _, _, _, _, _, _ => by simp [fle, val]
  | [a], _, _, _, _, _, _ => by simp [fle, val]
  | a :: b :: l, u, v, hi, hu, hx, huv => by
    obtain ⟨i1, i2⟩ := List.pairwise_cons.1 hi;obtain ⟨u1, u2⟩ := List.pairwise_cons.1 hu;have hab := i1 b (by simp);have yab := u1 b (by simp);have hax := hx a rfl;by_cases h1 : u ≤ b.x
    · have hd : 0 < b.x - a.x := by omega
      have e1 : val (a :: b :: l) u = (a.y * (b.x - a.x) + (b.y - a.y) * (u - a.x), b.x - a.x) := by unfold val; rw [if_pos h1]
      by_cases h2 : v ≤ b.x
      · have e2 : val (a :: b :: l) v = (a.y * (b.x - a.x) + (b.y - a.y) * (v - a.x), b.x - a.x) := by unfold val; rw [if_pos h2]
        rw [e1, e2];unfold fle;simp only;refine mul3 ?_ (by omega);have := Int.mul_le_mul_of_nonneg_left (show u - a.x ≤ v - a.x by omega) (show 0 ≤ b.y - a.y by omega);omega
      · have e2 : val (a :: b :: l) v = val (b :: l) v := by conv => lhs; unfold val; rw [if_neg h2]
        have hlo := val_lo (c := b.y) (l := b :: l) (x := v) (by simp) i2 (fun p hp => by
          rcases List.mem_cons.1 hp with rfl | hp
          · exact Int.le_refl _
          · exact (List.pairwise_cons.1 u2).1 p hp) (fun p hp => by simp at hp; subst hp; omega)
        have hp2 := val_pos (l := b :: l) (x := v) i2;rw [e1, e2];unfold fle;simp only;have g1 : a.y * (b.x - a.x) + (b.y - a.y) * (u - a.x) ≤ b.y * (b.x - a.x) := by
          have h3 := Int.mul_le_mul_of_nonneg_left (show u - a.x ≤ b.x - a.x by omega) (show 0 ≤ b.y - a.y by omega);have e : a.y * (b.x - a.x) + (b.y - a.y) * (b.x - a.x) = b.y * (b.x - a.x) := by rw [← Int.add_mul]; congr 1; omega
          omega
        have g2 := mul3 g1 (show 0 ≤ (val (b :: l) v).2 by omega);have g3 := mul3 hlo (show 0 ≤ b.x - a.x by omega);have e3 : b.y * (b.x - a.x) * (val (b :: l) v).2 = b.y * (val (b :: l) v).2 * (b.x - a.x) := by rw [Int.mul_assoc, Int.mul_assoc, Int.mul_comm (b.x - a.x)]
        omega
    · have e1 : val (a :: b :: l) u = val (b :: l) u := by conv => lhs; unfold val; rw [if_neg h1]
      have e2 : val (a :: b :: l) v = val (b :: l) v := by conv => lhs; unfold val; rw [if_neg (by omega)]
      rw [e1, e2];exact val_up i2 u2 (fun p hp => by simp at hp; subst hp; omega) huv
theorem val_dn {l : List Pnt} {u v : Int} (hi : l.Pairwise (fun a b => a.x < b.x)) (hd : Dn l) (hx : ∀ p, l.head? = some p → p.x ≤ u) (huv : u ≤ v) : fle (val l v) (val l u) := by
  have := val_up (l := neg l) (u := u) (v := v) (by rw [neg, List.pairwise_map]; exact hi) (by unfold Up; rw [neg, List.pairwise_map]; exact hd.imp fun h => by simp only; omega) (fun p hp => by
    simp only [neg, List.head?_map, Option.map_eq_some_iff] at hp;obtain ⟨q, hq, rfl⟩ := hp;exact hx q hq) huv
  rw [val_neg, val_neg] at this;unfold fle at this ⊢;simp only [Int.neg_mul] at this;omega
theorem div_le_of {a b k : Int} (hb : 0 < b) : (a + b - 1) / b ≤ k ↔ a ≤ k * b := by
  constructor
  · intro h;have h1 := Int.lt_mul_ediv_self_add (x := a + b - 1) hb;have h2 := Int.mul_le_mul_of_nonneg_left h (show 0 ≤ b by omega);rw [Int.mul_comm b k] at h2;omega
  · intro h;have : (a + b - 1) / b < k + 1 := by
      refine Int.ediv_lt_of_lt_mul hb ?_;rw [Int.add_mul]; omega
    omega
structure ShOk (s : Shp) : Prop where
  thr : Crv s.thr
  wat : Crv s.wat
  ice : Crv s.ice
  thrd : Dn s.thr
  watu : Up s.wat
  iceu : Up s.ice
  slow : 0 ≤ s.slow ∧ s.slow ≤ 20
  brash : 0 ≤ s.brash ∧ s.brash ≤ 100
  ridge : 0 ≤ s.ridge ∧ s.ridge ≤ 500
  press : 0 ≤ s.press ∧ s.press ≤ 5000
structure IcOk (i : Ic) : Prop where
  con : 0 ≤ i.con ∧ i.con ≤ 100
  thk : 0 ≤ i.thk ∧ i.thk ≤ 400
  rid : 0 ≤ i.rid ∧ i.rid ≤ 100
  prs : 0 ≤ i.prs ∧ i.prs ≤ 3
theorem Crv.ne {l : List Pnt} (h : Crv l) : l ≠ [] := fun e => by have := h.two; rw [e] at this; simp at this
theorem Crv.at {l : List Pnt} (h : Crv l) {x : Int} (hx : 0 ≤ x) : 0 < (val l x).2 ∧ (val l x).2 ≤ 400 ∧ 0 ≤ (val l x).1 ∧ (val l x).1 ≤ 20000 * (val l x).2 := by
  have hh : ∀ p, l.head? = some p → p.x ≤ x := fun p hp => by have := h.hd p hp; omega
  refine ⟨val_pos h.inc, val_den (by decide) (fun p hp => by have := h.rng p hp; omega), ?_, val_hi h.ne h.inc (fun p hp => (h.rng p hp).2.2.2) hh⟩;have := val_lo (c := 0) h.ne h.inc (fun p hp => (h.rng p hp).2.2.1) hh;omega
theorem Crv.hx {l : List Pnt} (h : Crv l) {x : Int} (hx : 0 ≤ x) : ∀ p, l.head? = some p → p.x ≤ x := fun p hp => by have := h.hd p hp; omega
theorem makes_iff {s : Shp} (h : ShOk s) (i : Ic) (ch : Bool) {v : Int} (hv : 0 ≤ v) (ht : 0 ≤ i.thk) : makes s i ch v = true ↔ v ≤ endX s.thr ∧ resA s i ch v ≤ thrS s v * resB s i v := by
  have hw := (h.wat.at hv).1;have hi := (h.ice.at ht).1;have hB : 0 < resB s i v := Int.mul_pos hw (by unfold resD; omega);unfold makes res;rw [Bool.and_eq_true, decide_eq_true_eq, decide_eq_true_eq, div_le_of hB]
theorem thr_mono {s : Shp} (h : ShOk s) {u v : Int} (hu : 0 ≤ u) (huv : u ≤ v) : thrS s v ≤ thrS s u := by
  have h1 := val_dn h.thr.inc h.thrd (h.thr.hx hu) huv;have p1 := (h.thr.at hu).1;have p2 := (h.thr.at (x := v) (by omega)).1;unfold fle at h1;unfold thrS;generalize (val s.thr v).1 = a at *;generalize (val s.thr v).2 = b at *;generalize (val s.thr u).1 = c at *;generalize (val s.thr u).2 = d at *;refine Int.le_ediv_of_mul_le p1 ?_;have h2 : a / b * b ≤ a := Int.ediv_mul_le a (by omega);have h3 := mul3 h2 (show 0 ≤ d by omega);have h4 : a / b * d * b ≤ c * b := by
    have e : a / b * b * d = a / b * d * b := by rw [Int.mul_assoc, Int.mul_assoc, Int.mul_comm b]
    omega
  exact Int.le_of_mul_le_mul_right h4 p2
theorem makes_v {s : Shp} (h : ShOk s) {i : Ic} (hi : IcOk i) (ch : Bool) {u v : Int} (hu : 0 ≤ u) (huv : u ≤ v) (hm : makes s i ch v = true) : makes s i ch u = true := by
  have hv : 0 ≤ v := by omega
  rw [makes_iff h i ch hv hi.thk.1] at hm;rw [makes_iff h i ch hu hi.thk.1];refine ⟨by omega, ?_⟩;have ht := thr_mono h hu huv;obtain ⟨w1, w2, w3, w4⟩ := h.wat.at hu;obtain ⟨y1, y2, y3, y4⟩ := h.wat.at hv;obtain ⟨t1, t2, t3, t4⟩ := h.ice.at hi.thk.1;have hw := val_up h.wat.inc h.watu (h.wat.hx hu) huv;unfold fle at hw;have hD : 0 < resD s i := by unfold resD; omega
  have hN : resN s i ch u ≤ resN s i ch v := by
    unfold resN;refine Int.mul_le_mul_of_nonneg_left ?_ hi.con.1;refine Int.add_le_add ?_ (Int.le_refl _);refine mul3 ?_ (by have := h.brash; split <;> omega);refine Int.mul_le_mul_of_nonneg_left ?_ t3;have := Int.mul_le_mul_of_nonneg_left huv h.slow.1;omega
  have hm2 := hm.2;unfold resA resB at hm2 ⊢;generalize resN s i ch u = N at *;generalize resN s i ch v = M at *;generalize resD s i = D at *;generalize (val s.wat u).1 = a at *;generalize (val s.wat u).2 = b at *;generalize (val s.wat v).1 = c at *;generalize (val s.wat v).2 = d at *;generalize s.press * i.prs = P at *;generalize thrS s v = tv at *;generalize thrS s u = tu at *;refine Int.le_of_mul_le_mul_right ?_ y1;have k1 : a * D * d ≤ c * D * b := by
    have := mul3 hw (show 0 ≤ D by omega);have e1 : a * D * d = a * d * D := by rw [Int.mul_assoc, Int.mul_assoc, Int.mul_comm D]
    have e2 : c * D * b = c * b * D := by rw [Int.mul_assoc, Int.mul_assoc, Int.mul_comm D]
    omega
  have k2 : N * b * d ≤ M * d * b := by
    have := mul3 (mul3 hN (show 0 ≤ b by omega)) (show 0 ≤ d by omega);have e : M * b * d = M * d * b := by rw [Int.mul_assoc, Int.mul_assoc, Int.mul_comm b]
    omega
  have k3 : P * b * D * d = P * d * D * b := by
    rw [Int.mul_assoc, Int.mul_assoc, Int.mul_assoc, Int.mul_assoc, Int.mul_comm b, Int.mul_comm d, Int.mul_assoc, Int.mul_assoc, Int.mul_comm d b]
  have k4 := mul3 hm2 (show 0 ≤ b by omega);have k5 : tv * (d * D) * b ≤ tu * (b * D) * d := by
    have h0 : 0 ≤ d * D * b := Int.mul_nonneg (Int.mul_nonneg (by omega) (by omega)) (by omega);have := mul3 ht h0;have e1 : tv * (d * D) * b = tv * (d * D * b) := by rw [Int.mul_assoc]
    have e2 : tu * (b * D) * d = tu * (d * D * b) := by rw [Int.mul_assoc, Int.mul_comm (b * D) d, ← Int.mul_assoc d b D, Int.mul_assoc d D b, Int.mul_comm D b, ← Int.mul_assoc d b D]
    omega
  rw [Int.add_mul, Int.add_mul];rw [Int.add_mul, Int.add_mul] at k4;omega
theorem makes_t {s : Shp} (h : ShOk s) {con rid prs : Int} (hc : 0 ≤ con) (ch : Bool) {v t u : Int} (hv : 0 ≤ v) (ht : 0 ≤ t) (htu : t ≤ u) (hr : 0 ≤ rid) (hm : makes s ⟨con, u, rid, prs⟩ ch v = true) : makes s ⟨con, t, rid, prs⟩ ch v = true := by
  have hu : 0 ≤ u := by omega
  rw [makes_iff h _ ch hv hu] at hm;rw [makes_iff h _ ch hv ht];refine ⟨hm.1, ?_⟩;obtain ⟨w1, w2, w3, w4⟩ := h.wat.at hv;obtain ⟨t1, t2, t3, t4⟩ := h.ice.at ht;obtain ⟨u1, u2, u3, u4⟩ := h.ice.at hu;have hw := val_up h.ice.inc h.iceu (h.ice.hx ht) htu;unfold fle at hw;have hm2 := hm.2;unfold resA resB resN resD at hm2 ⊢;simp only at hm2 ⊢;generalize (val s.ice t).1 = a at *;generalize (val s.ice t).2 = b at *;generalize (val s.ice u).1 = c at *;generalize (val s.ice u).2 = d at *;generalize (val s.wat v).1 = wn at *;generalize (val s.wat v).2 = wd at *;have hs : 0 ≤ (if ch then s.brash else 100) := by have := h.brash; split <;> omega
  have hs2 : 0 ≤ 1000 + s.slow * v := by have := Int.mul_nonneg h.slow.1 hv; omega
  generalize (if ch then s.brash else 100) = sh at *;generalize 1000 + s.slow * v = sv at *;generalize s.ridge * (if ch then 0 else rid) = R at *;generalize s.press * prs = P at *;generalize thrS s v = T at *;refine Int.le_of_mul_le_mul_right ?_ u1;have k4 := mul3 hm2 (show 0 ≤ b by omega);have e1 : wn * (b * 10000000) * d = wn * (d * 10000000) * b := by
    rw [Int.mul_assoc, Int.mul_assoc wn]; congr 1;rw [Int.mul_comm b, Int.mul_comm d, Int.mul_assoc, Int.mul_assoc, Int.mul_comm b d]
  have e3 : P * wd * (b * 10000000) * d = P * wd * (d * 10000000) * b := by
    rw [Int.mul_assoc, Int.mul_assoc (P * wd)]; congr 1;rw [Int.mul_comm b, Int.mul_comm d, Int.mul_assoc, Int.mul_assoc, Int.mul_comm b d]
  have e4 : T * (wd * (b * 10000000)) * d = T * (wd * (d * 10000000)) * b := by
    rw [Int.mul_assoc, Int.mul_assoc T]; congr 1;rw [Int.mul_assoc, Int.mul_assoc wd]; congr 1;rw [Int.mul_comm b, Int.mul_comm d, Int.mul_assoc, Int.mul_assoc, Int.mul_comm b d]
  have k2 : con * (a * sv * sh + R * b * 100000) * wd * d ≤ con * (c * sv * sh + R * d * 100000) * wd * b := by
    have g1 : (a * sv * sh + R * b * 100000) * d ≤ (c * sv * sh + R * d * 100000) * b := by
      rw [Int.add_mul, Int.add_mul];have h1 := mul3 (mul3 hw hs2) hs;have f1 : a * sv * sh * d = a * d * sv * sh := by rw [Int.mul_assoc a, Int.mul_assoc, Int.mul_comm (sv * sh) d, ← Int.mul_assoc, ← Int.mul_assoc]
      have f2 : c * sv * sh * b = c * b * sv * sh := by rw [Int.mul_assoc c, Int.mul_assoc, Int.mul_comm (sv * sh) b, ← Int.mul_assoc, ← Int.mul_assoc]
      have f3 : R * b * 100000 * d = R * d * 100000 * b := by rw [Int.mul_right_comm (R * b) 100000 d, Int.mul_right_comm R b d, Int.mul_right_comm (R * d) 100000 b]
      omega
    have g2 := Int.mul_le_mul_of_nonneg_left g1 (Int.mul_nonneg hc (show 0 ≤ wd by omega));have f1 : ∀ X Y : Int, con * X * wd * Y = con * wd * (X * Y) := fun X Y => by
      rw [Int.mul_assoc con X, Int.mul_comm X wd, ← Int.mul_assoc con, Int.mul_assoc]
    rw [f1, f1];exact g2
  rw [Int.add_mul, Int.add_mul];rw [Int.add_mul, Int.add_mul] at k4;omega
end Go.Proofs.Ytalcinepeofmcaa.Hu
namespace Go.Proofs.Ytalcinepeofmcaa.Hu
open Sp (within)
def incB : List Pnt → Bool
  | a :: b :: l => decide (a.x < b.x) && incB (b :: l)
  | _ => true
def wayB (k : Int) : List Pnt → Bool
  | a :: b :: l => decide (0 ≤ (b.y - a.y) * k) && wayB k (b :: l)
  | _ => true
def pntB (p : Pnt) : Bool := within p.x 0 400 && within p.y 0 20000
def curveB (l : List Pnt) : Bool := within l.length 2 8 && decide ((l.headD ⟨1, 0⟩).x = 0) && l.all pntB && incB l
def steadyB (l : List Pnt) (k : Int) : Bool := curveB l && wayB k l
def shipE (s : Shp) : Int :=
  if within s.cls 1 6 = false then 41
  else if (within s.pow 100 100000 && within s.dra 10 2000 && within s.ton 10 500000) = false then 40
  else if (within s.slow 0 20 && within s.brash 0 100 && within s.ridge 0 500 && within s.press 0 5000) = false then 40
  else if (steadyB s.thr (-1) && within (endX s.thr) 10 250) = false then 40
  else if (steadyB s.wat 1 && decide (endX s.wat ≤ 250)) = false then 40
  else if (steadyB s.ice 1 && decide ((s.ice.headD ⟨0, 1⟩).y = 0) && decide (endX s.ice = 400)) = false then 40
  else 0
theorem incB_iff : ∀ {l : List Pnt}, incB l = true ↔ l.Pairwise (fun a b => a.x < b.x)
  | [] => by simp [incB]
  | [a] => by simp [incB]
  | a :: b :: l => by
    rw [incB, Bool.and_eq_true, incB_iff (l := b :: l), decide_eq_true_eq];constructor
    · rintro ⟨h1, h2⟩;refine List.pairwise_cons.2 ⟨fun x hx => ?_, h2⟩;rcases List.mem_cons.1 hx with rfl | hx
      · exact h1
      · have := (List.pairwise_cons.1 h2).1 x hx; omega
    · intro h;exact ⟨(List.pairwise_cons.1 h).1 b (by simp), (List.pairwise_cons.1 h).2⟩
theorem wayB_iff {k : Int} : ∀ {l : List Pnt}, wayB k l = true ↔ l.Pairwise (fun a b => a.y * k ≤ b.y * k)
  | [] => by simp [wayB]
  | [a] => by simp [wayB]
  | a :: b :: l => by
    rw [wayB, Bool.and_eq_true, wayB_iff (l := b :: l), decide_eq_true_eq, Int.sub_mul];constructor
    · rintro ⟨h1, h2⟩;refine List.pairwise_cons.2 ⟨fun x hx => ?_, h2⟩;rcases List.mem_cons.1 hx with rfl | hx
      · omega
      · have := (List.pairwise_cons.1 h2).1 x hx; omega
    · intro h;have := (List.pairwise_cons.1 h).1 b (by simp);exact ⟨by omega, (List.pairwise_cons.1 h).2⟩
theorem curveB_crv {l : List Pnt} (h : curveB l = true) : Crv l ∧ l.length ≤ 8 := by
  unfold curveB at h;simp only [Bool.and_eq_true, Pt.within_iff, decide_eq_true_eq, List.all_eq_true, pntB] at h;obtain ⟨⟨⟨h1, h2⟩, h3⟩, h4⟩ := h;refine ⟨⟨by omega, fun p hp => ?_, fun p hp => ?_, incB_iff.1 h4⟩, by omega⟩
  · cases l with
    | nil => cases hp
    | cons a l => simp at hp; subst hp; exact h2
  · have := h3 p hp; omega
theorem crv_curveB {l : List Pnt} (h : Crv l) (hl : l.length ≤ 8) : curveB l = true := by
  unfold curveB;simp only [Bool.and_eq_true, Pt.within_iff, decide_eq_true_eq, List.all_eq_true, pntB];refine ⟨⟨⟨by have := h.two; omega, ?_⟩, fun p hp => by have := h.rng p hp; omega⟩, incB_iff.2 h.inc⟩;cases l with
  | nil => exact absurd rfl h.ne
  | cons a l => exact h.hd a rfl
theorem shipE_ok {s : Shp} (h : shipE s = 0) : ShOk s ∧ 10 ≤ endX s.thr ∧ endX s.thr ≤ 250 ∧ endX s.wat ≤ 250 ∧ endX s.ice = 400 ∧ s.thr.length ≤ 8 ∧ s.wat.length ≤ 8 ∧ s.ice.length ≤ 8 ∧ (1 ≤ s.cls ∧ s.cls ≤ 6) ∧ (100 ≤ s.pow ∧ s.pow ≤ 100000) := by
  unfold shipE at h;split at h
  · cases h
  next h1 =>
  split at h
  · cases h
  next h2 =>
  split at h
  · cases h
  next h3 =>
  split at h
  · cases h
  next h4 =>
  split at h
  · cases h
  next h5 =>
  split at h
  · cases h
  next h6 =>
  simp only [steadyB, Bool.not_eq_false, Bool.and_eq_true, Pt.within_iff, decide_eq_true_eq] at h1 h2 h3 h4 h5 h6;obtain ⟨⟨a1, a2⟩, a3⟩ := h4;obtain ⟨⟨b1, b2⟩, b3⟩ := h5;obtain ⟨⟨⟨c1, c2⟩, c3⟩, c4⟩ := h6;refine ⟨⟨(curveB_crv a1).1, (curveB_crv b1).1, (curveB_crv c1).1, ?_, ?_, ?_, by omega, by omega, by omega, by omega⟩, by omega, by omega, by omega, by omega, (curveB_crv a1).2, (curveB_crv b1).2, (curveB_crv c1).2, by omega, by omega⟩
  · exact (wayB_iff.1 a2).imp fun h => by omega
  · exact (wayB_iff.1 b2).imp fun h => by omega
  · exact (wayB_iff.1 c2).imp fun h => by omega
structure Grt (so : Int → Bool) (lo hi r : Int) : Prop where
  ge : lo ≤ r
  le : r ≤ hi
  yes : so r = true
  no : ∀ n, r < n → n ≤ hi → so n = false
def GrtP (so : Int → Bool) (lo hi r : Int) (b : Bool) : Prop := (b = true ∧ Grt so lo hi r) ∨ (b = false ∧ so lo = false ∧ r = 0)
theorem speed_iff {s : Shp} (h : ShOk s) {i : Ic} (hi : IcOk i) {ch : Bool} {v : Int} {b : Bool} (hg : GrtP (makes s i ch) 0 250 v b) : (0 ≤ v ∧ v ≤ 250) ∧ (v < 10 ↔ makes s i ch 10 = false) := by
  rcases hg with ⟨_, h1, h2, h3, h4⟩ | ⟨_, h1, rfl⟩
  · refine ⟨⟨h1, h2⟩, fun hv => h4 10 hv (by decide), fun hm => ?_⟩;rcases Int.lt_or_le v 10 with g | g
    · exact g
    · have := makes_v h hi ch (u := 10) (v := v) (by decide) g h3;rw [hm] at this; cases this
  · refine ⟨by decide, fun _ => ?_, fun _ => by decide⟩;cases hm : makes s i ch 10 with
    | false => rfl
    | true => rw [makes_v h hi ch (u := 0) (v := 10) (by decide) (by decide) hm] at h1; cases h1
def lvl (n : Int) : Ic := ⟨100, n, 0, 0⟩
theorem lvl_ok {n : Int} (h : 0 ≤ n ∧ n ≤ 400) : IcOk (lvl n) := ⟨by simp [lvl], h, by simp [lvl], by simp [lvl]⟩
theorem takes_iff {s : Shp} (h : ShOk s) {t : Int} (hg : Grt (fun n => makes s (lvl n) true 10) 0 400 t) {n : Int} (hn : 0 ≤ n ∧ n ≤ 400) : makes s (lvl n) true 10 = true ↔ n ≤ t := by
  constructor
  · intro hm;rcases Int.lt_or_le t n with g | g
    · have h2 := hg.no n g hn.2;have h3 : makes s (lvl n) true 10 = false := h2;rw [hm] at h3; cases h3
    · exact g
  · intro hle;exact makes_t h (by decide) true (v := 10) (by decide) hn.1 hle (by decide) hg.yes
structure Mk (l : List Pnt) (x y : Int) : Prop where
  hd : ∀ p, l.head? = some p → p.x = 0
  ne : l ≠ []
  rng : ∀ p ∈ l, 0 ≤ p.x ∧ p.x ≤ x ∧ 0 ≤ p.y ∧ p.y ≤ 20000
  inc : l.Pairwise (fun a b => a.x < b.x)
  last : l.getLast? = some ⟨x, y⟩
theorem Mk.one {y : Int} (hy : 0 ≤ y ∧ y ≤ 20000) : Mk [⟨0, y⟩] 0 y := ⟨by simp, by simp, by simpa using hy, by simp, rfl⟩
theorem Mk.snoc {l : List Pnt} {x y x' y' : Int} (h : Mk l x y) (hx : x < x') (hy : 0 ≤ y' ∧ y' ≤ 20000) (h0 : 0 ≤ x) : Mk (l ++ [⟨x', y'⟩]) x' y' := by
  refine ⟨fun p hp => ?_, by simp, fun p hp => ?_, List.pairwise_append.2 ⟨h.inc, by simp, fun a ha b hb => ?_⟩, by simp⟩
  · rw [List.head?_append] at hp;cases e : l.head? with
    | none => rw [List.head?_eq_none_iff] at e; exact absurd e h.ne
    | some q => rw [e] at hp; simp at hp; subst hp; exact h.hd q e
  · rcases List.mem_append.1 hp with e | e
    · have := h.rng p e; omega
    · rw [List.mem_singleton.1 e]; simp only; omega
  · rw [List.mem_singleton.1 hb];have := h.rng a ha;simp only; omega
theorem Mk.endX {l : List Pnt} {x y : Int} (h : Mk l x y) : endX l = x := by
  unfold Hu.endX;rw [List.getLastD_eq_getLast?, h.last]; rfl
theorem Mk.crv {l : List Pnt} {x y : Int} (h : Mk l x y) (hx : x ≤ 400) (hl : 2 ≤ l.length) : Crv l := ⟨hl, h.hd, fun p hp => by have := h.rng p hp; omega, h.inc⟩
theorem pw_last {R : Int → Int → Prop} (hR : ∀ a b c, R a b → R b c → R a c) (hr : ∀ a, R a a) : ∀ {l : List Pnt} {x y : Int}, l.Pairwise (fun a b => R a.y b.y) → l.getLast? = some ⟨x, y⟩ → ∀ p ∈ l, R p.y y
  | [], _, _, _, h, _, _ => by cases h
  | [a], x, y, _, h, p, hp => by simp at h hp; subst hp; subst h; exact hr _
  | a :: b :: l, x, y, hw, h, p, hp => by
    rw [List.getLast?_cons_cons] at h;obtain ⟨h1, h2⟩ := List.pairwise_cons.1 hw;have ih := pw_last hR hr h2 h;rcases List.mem_cons.1 hp with rfl | hp
    · exact hR _ _ _ (h1 b (by simp)) (ih b (by simp))
    · exact ih p hp
theorem up_snoc {l : List Pnt} {x y x' y' : Int} (h : Up l) (hl : l.getLast? = some ⟨x, y⟩) (hy : y ≤ y') : Up (l ++ [⟨x', y'⟩]) := by
  refine List.pairwise_append.2 ⟨h, by simp, fun a ha b hb => ?_⟩;rw [List.mem_singleton.1 hb];have := pw_last (R := fun a b => a ≤ b) (fun _ _ _ => Int.le_trans) Int.le_refl h hl a ha;simp only at this ⊢; omega
theorem dn_snoc {l : List Pnt} {x y x' y' : Int} (h : Dn l) (hl : l.getLast? = some ⟨x, y⟩) (hy : y' ≤ y) : Dn (l ++ [⟨x', y'⟩]) := by
  refine List.pairwise_append.2 ⟨h, by simp, fun a ha b hb => ?_⟩;rw [List.mem_singleton.1 hb];have := pw_last (R := fun a b => b ≤ a) (fun _ _ _ h1 h2 => Int.le_trans h2 h1) Int.le_refl h hl a ha;simp only at this ⊢; omega
theorem shipE_of {s : Shp} (h : ShOk s) (h1 : 10 ≤ endX s.thr ∧ endX s.thr ≤ 250) (h2 : endX s.wat ≤ 250) (h3 : endX s.ice = 400) (l1 : s.thr.length ≤ 8) (l2 : s.wat.length ≤ 8) (l3 : s.ice.length ≤ 8) (hc : 1 ≤ s.cls ∧ s.cls ≤ 6) (hp : 100 ≤ s.pow ∧ s.pow ≤ 100000) (hd : 10 ≤ s.dra ∧ s.dra ≤ 2000) (ht : 10 ≤ s.ton ∧ s.ton ≤ 500000) (hi : (s.ice.headD ⟨0, 1⟩).y = 0) : shipE s = 0 := by
  have q1 := crv_curveB h.thr l1;have q2 := crv_curveB h.wat l2;have q3 := crv_curveB h.ice l3;have w1 : wayB (-1) s.thr = true := wayB_iff.2 (h.thrd.imp fun h => by omega);have w2 : wayB 1 s.wat = true := wayB_iff.2 (h.watu.imp fun h => by omega);have w3 : wayB 1 s.ice = true := wayB_iff.2 (h.iceu.imp fun h => by omega);have a1 := h.slow;have a2 := h.brash;have a3 := h.ridge;have a4 := h.press;unfold shipE steadyB;rw [if_neg (by simp only [Bool.not_eq_false, Pt.within_iff]; omega), if_neg (by simp only [Bool.not_eq_false, Bool.and_eq_true, Pt.within_iff]; omega), if_neg (by simp only [Bool.not_eq_false, Bool.and_eq_true, Pt.within_iff]; omega),
    if_neg (by simp only [Bool.not_eq_false, Bool.and_eq_true, Pt.within_iff, q1, w1]; exact ⟨⟨trivial, trivial⟩, h1⟩), if_neg (by simp only [Bool.not_eq_false, Bool.and_eq_true, decide_eq_true_eq, q2, w2]; exact ⟨⟨trivial, trivial⟩, h2⟩), if_neg (by simp only [Bool.not_eq_false, Bool.and_eq_true, decide_eq_true_eq, q3, w3]; exact ⟨⟨⟨trivial, trivial⟩, hi⟩, h3⟩)]
end Go.Proofs.Ytalcinepeofmcaa.Hu
namespace Go.Proofs.Ytalcinepeofmcaa
open Go Go.RowKit Sp Hu
def pnt (p : Pnt) : List Value := [.int .i64 p.x, .int .i64 p.y]
abbrev pnts (l : List Pnt) : List Value := l.flatMap pnt
theorem pnts_get {l : List Pnt} {k : Nat} (hk : k < l.length) : (pnts l)[k * 2]? = some (.int .i64 l[k].x) ∧ (pnts l)[k * 2 + 1]? = some (.int .i64 l[k].y) :=
  ⟨flat_get (f := pnt) (s := 2) (fun _ => rfl) hk (j := 0) (by decide), flat_get (f := pnt) (s := 2) (fun _ => rfl) hk (j := 1) (by decide)⟩
theorem huin_any (n lo hi : Int) (w : World) :
    Calls Try.prog 72 #[.int .i64 n, .int .i64 lo, .int .i64 hi] w fun e w' => e = .returned (.bool (within n lo hi)) ∧ w = w' := by
  go_enter Try.func72, Try.ntmps72
  go_wp2
  all_goals (go_ret; refine ⟨?_, rfl⟩; simp [within]; try omega)
theorem huend_any (A : Option Addr) (c : Nat) (l : List Pnt) (w : World) (hr : Rd w 2 A l.length (pnts l)) (hl : 0 < l.length) (hm : l.length ≤ 1000) :
    Calls Try.prog 53 #[.slice A l.length c] w fun e w' => e = .returned (.int .i64 (endX l)) ∧ w = w' := by
  obtain ⟨b, off, rfl, hb, hc⟩ := hr.2 hl;obtain ⟨n, hn⟩ : ∃ n, l.length = n + 1 := ⟨l.length - 1, by omega⟩;have g := hc _ _ (pnts_get (l := l) (k := n) (by omega)).1;have he : endX l = (l[n]'(by omega)).x := by
    unfold endX;rw [List.getLastD_eq_getLast?, List.getLast?_eq_getElem?, show l.length - 1 = n by omega, List.getElem?_eq_getElem (by omega)]; rfl
  rw [he];obtain ⟨v, hv⟩ : ∃ v, v = (l[n]'(by omega)).x := ⟨_, rfl⟩;rw [← hv] at g ⊢;rw [hn];have hw : ((n + 1 : Nat) : Int) - 1 = (n : Int) := by omega
  have hn' : n ≤ 1000 := by omega
  clear hr hc he hv hl hm hn
  go_enter Try.func53, Try.ntmps53
  go_wp2_with fail
  go_ret;exact ⟨rfl, rfl⟩
structure HvS where
  b1 : Nat
  b2 : Nat
def Hv4V (b off n c k j : Nat) (pa pb : Pnt) (s : HvS) : Nat → Value → Prop
  | 0, v => v = .slice (some ⟨b, off, none⟩) n c
  | 1, v => v = .int .i64 k
  | 2, v => v = .int .i64 j
  | 3, v => v = .pointer (some ⟨b, off + j * 2, none⟩)
  | 4, v => v = .agg #[.int .i64 pa.x, .int .i64 pa.y]
  | 5, v => v = .slice (some ⟨b, off, none⟩) n c
  | 6, v => v = .int .i64 k
  | 7, v => v = .pointer (some ⟨b, off + k * 2, none⟩)
  | 8, v => v = .agg #[.int .i64 pb.x, .int .i64 pb.y]
  | 9, v => v = .pointer (some ⟨s.b1, 0, none⟩)
  | 10, v => v = .pointer (some ⟨s.b2, 0, none⟩)
  | _, _ => True
theorem value_any (A : Option Addr) (c : Nat) (l : List Pnt) (x : Int) (w : World) (hr : Rd w 2 A l.length (pnts l)) (hl : 0 < l.length) (hm : l.length ≤ 1000) (hx : -1000 ≤ x ∧ x ≤ 1000) (hpr : ∀ p ∈ l, 0 ≤ p.x ∧ p.x ≤ 1000 ∧ 0 ≤ p.y ∧ p.y ≤ 100000) :
    Calls Try.prog 73 #[.slice A l.length c, .int .i64 x] w fun e w' => e = .returned (.tuple #[.int .i64 (val l x).1, .int .i64 (val l x).2]) ∧ Below w.heap.size w w' := by
  obtain ⟨b, off, rfl, hb, hc⟩ := hr.2 hl;have HC := Lib.hid (And.intro hc hpr);clear hr hc hpr
  go_enter Try.func73, Try.ntmps73
  go_wp2_with fail
  go_loopg [6] (l.length - 1) (fun g i wr => ∃ k : Nat, g + k = l.length ∧ 1 ≤ k ∧ i = .int .i64 k ∧ val (l.drop (k - 1)) x = val l x ∧ Below w.heap.size w wr)
  case atStart => exact ⟨1, by omega, by omega, rfl, by simp, Below.refl _ _⟩
  case round =>
    obtain ⟨k, hk, hk1, rfl, hv, bb⟩ := hrel;obtain ⟨j, rfl⟩ : ∃ j, k = j + 1 := ⟨k - 1, by omega⟩;rw [Nat.add_sub_cancel] at hv;obtain ⟨k, hkj⟩ : ∃ k, k = j + 1 := ⟨_, rfl⟩;rw [← hkj] at hk hk1 ⊢;have HKJ := Lib.hid hkj;have hj1 : j < k ∧ k ≤ j + 1 := by omega
    clear hkj;have HB := Lib.hid (And.intro bb hv);clear bb hv;by_cases hlt : k < l.length
    · have hjl : j < l.length := by omega
      have gj := pnts_get (l := l) (k := j) hjl;have gk' := pnts_get (l := l) (k := k) hlt;have hbw : b < wr.heap.size := Nat.lt_of_lt_of_le hb HB.out.1.size;have hpa := HC.out.2 _ (List.getElem_mem hjl);have hpb := HC.out.2 _ (List.getElem_mem hlt);have cj0 := (HB.out.1.cell (p := ⟨b, off + j * 2, none⟩) hb).trans (HC.out.1 _ _ gj.1);have cj1 : wr.cell? ⟨b, off + j * 2 + 1, none⟩ = some (.int .i64 l[j].y) := (HB.out.1.cell (p := ⟨b, off + j * 2 + 1, none⟩) hb).trans (by rw [Nat.add_assoc]; exact HC.out.1 _ _ gj.2);have ck0 := (HB.out.1.cell (p := ⟨b, off + k * 2, none⟩) hb).trans (HC.out.1 _ _ gk'.1);have ck1 : wr.cell? ⟨b, off + k * 2 + 1, none⟩ = some (.int .i64 l[k].y) := (HB.out.1.cell (p := ⟨b, off + k * 2 + 1, none⟩) hb).trans (by rw [Nat.add_assoc]; exact HC.out.1 _ _ gk'.2);have hd : l.drop j = l[j] :: l[k] :: l.drop (k + 1) := by
        rw [List.drop_eq_getElem_cons hjl]
        congr 1
        have e := HKJ.out;subst e;rw [List.drop_eq_getElem_cons hlt]
      have hdk : l.drop k = l[k] :: l.drop (k + 1) := List.drop_eq_getElem_cons hlt;obtain ⟨pa, hpae⟩ : ∃ q, q = l[j] := ⟨_, rfl⟩;obtain ⟨pb, hpbe⟩ : ∃ q, q = l[k] := ⟨_, rfl⟩;rw [← hpae] at hpa cj0 cj1 hd;rw [← hpbe] at hpb ck0 ck1 hd hdk;have hvv := HB.out.2;rw [hd, val] at hvv;have HP := Lib.hid (And.intro (And.intro cj0 cj1) (And.intro ck0 ck1));have HV := Lib.hid (And.intro hvv hdk);have zb := hbw;clear hd hdk hvv hpae hpbe gj gk' cj0 cj1 ck0 ck1 hbw hjl;go_wp2_with fail
      refine wRS (σ := HvS) (by kernel_rfl) (by kernel_rfl) (fun sg jx vx _ => Hv4V b off l.length c k j pa pb sg jx vx) (fun sg ly wx => Own wr.heap.size wr [if ly 9 = true then It.blk sg.b1 (.cells (if ly 11 = true then #[.int .i64 pa.x, .int .i64 pa.y] else #[.int .i64 0, .int .i64 0]) 70) else noIt, if ly 10 = true then It.blk sg.b2 (.cells (if ly 12 = true then #[.int .i64 pb.x, .int .i64 pb.y] else #[.int .i64 0, .int .i64 0]) 70) else noIt] wx) ⟨0, 0⟩ ?_ ?_ ?_
      · exact (Own.start wr).blank.blank.drew
      · simp only [AllFrom, Nat.zero_add, Nat.reduceAdd];refine ⟨?_, ?_, ?_, ?_, ?_, ?_, ?_, ?_, ?_, ?_, ?_, ?_, ?_, trivial⟩
        · refine sP_ fun sg ly act wx hl hd hW hF => ?_;have et0 := hF.old 0 (by kernel_rfl);simp [Act.eval] at et0;exact ⟨hW, .slice (some ⟨b, off, none⟩) l.length c, by go_simp, rfl⟩
        · refine sP_ fun sg ly act wx hl hd hW hF => ?_;have et6 := hF.old 6 (by kernel_rfl);simp [Act.eval] at et6;exact ⟨hW, .int .i64 k, by go_simp, rfl⟩
        · refine sP_ fun sg ly act wx hl hd hW hF => ?_;simp [Region.binds] at hd;have et16 := hF.new 1 16 (by simp [hd]) rfl;simp [Hv4V, Act.eval] at et16;have ew : IntKind.i64.wrap ((k : Int) - 1) = (j : Int) := by rw [IntWalk.i64_in _ (by omega)]; omega
          exact ⟨hW, .int .i64 j, by go_simp, rfl⟩
        · refine sP_ fun sg ly act wx hl hd hW hF => ?_;simp [Region.binds] at hd;have et15 := hF.new 0 15 (by simp [hd]) rfl;simp [Hv4V, Act.eval] at et15;have et17 := hF.new 2 17 (by simp [hd]) rfl;simp [Hv4V, Act.eval] at et17;have hjl : (j : Int) < (l.length : Int) := by omega
          exact ⟨hW, .pointer (some ⟨b, off + j * 2, none⟩), by go_simp, rfl⟩
        · refine sP_ fun sg ly act wx hl hd hW hF => ?_;simp [Region.binds] at hd;have et18 := hF.new 3 18 (by simp [hd]) rfl;simp [Hv4V, Act.eval] at et18;have hO := hW;try dsimp only at hO
          have c0 := (hO.bel.cell (p := ⟨b, off + j * 2, none⟩) zb).trans HP.out.1.1;have c1 := (hO.bel.cell (p := ⟨b, off + j * 2 + 1, none⟩) zb).trans HP.out.1.2;have zz := Nat.lt_of_lt_of_le zb hO.bel.size;exact ⟨hW, .agg #[.int .i64 pa.x, .int .i64 pa.y], by go_simp, rfl⟩
        · refine sP_ fun sg ly act wx hl hd hW hF => ?_;have et0 := hF.old 0 (by kernel_rfl);simp [Act.eval] at et0;exact ⟨hW, .slice (some ⟨b, off, none⟩) l.length c, by go_simp, rfl⟩
        · refine sP_ fun sg ly act wx hl hd hW hF => ?_;have et6 := hF.old 6 (by kernel_rfl);simp [Act.eval] at et6;exact ⟨hW, .int .i64 k, by go_simp, rfl⟩
        · refine sP_ fun sg ly act wx hl hd hW hF => ?_;simp [Region.binds] at hd;have et20 := hF.new 5 20 (by simp [hd]) rfl;simp [Hv4V, Act.eval] at et20;have et21 := hF.new 6 21 (by simp [hd]) rfl;simp [Hv4V, Act.eval] at et21;have hkl : (k : Int) < (l.length : Int) := by omega
          exact ⟨hW, .pointer (some ⟨b, off + k * 2, none⟩), by go_simp, rfl⟩
        · refine sP_ fun sg ly act wx hl hd hW hF => ?_;simp [Region.binds] at hd;have et22 := hF.new 7 22 (by simp [hd]) rfl;simp [Hv4V, Act.eval] at et22;have hO := hW;try dsimp only at hO
          have c0 := (hO.bel.cell (p := ⟨b, off + k * 2, none⟩) zb).trans HP.out.2.1;have c1 := (hO.bel.cell (p := ⟨b, off + k * 2 + 1, none⟩) zb).trans HP.out.2.2;have zz := Nat.lt_of_lt_of_le zb hO.bel.size;exact ⟨hW, .agg #[.int .i64 pb.x, .int .i64 pb.y], by go_simp, rfl⟩
        · refine sR_ fun sg ly act wx hl hd hW hF => ?_;have n11 := hF.notYet 9 11 hl (by kernel_rfl);have hO := hW;try dsimp only at hO
          simp only [hl, n11, Bool.false_eq_true, if_false, if_true] at hO;refine ⟨_, wx.alloc (.cells #[.int .i64 0, .int .i64 0] 70), { sg with b1 := wx.heap.size }, by go_simp, ?_, rfl, ?_⟩
          · have hN := hO.newB 0 rfl (.cells #[.int .i64 0, .int .i64 0] 70);simpa [upd, n11] using hN
          · intro i u hi h;have i9 : i ≠ 9 := by rintro rfl; rw [hl] at hi; cases hi
            have i11 : i ≠ 11 := by rintro rfl; rw [n11] at hi; cases hi
            unfold Hv4V at h ⊢;split at h <;> first | exact h | exact absurd rfl i9 | exact absurd rfl i11
        · refine sR_ fun sg ly act wx hl hd hW hF => ?_;have n12 := hF.notYet 10 12 hl (by kernel_rfl);have hO := hW;try dsimp only at hO
          simp only [hl, n12, Bool.false_eq_true, if_false, if_true] at hO;refine ⟨_, wx.alloc (.cells #[.int .i64 0, .int .i64 0] 70), { sg with b2 := wx.heap.size }, by go_simp, ?_, rfl, ?_⟩
          · have hN := hO.newB 1 rfl (.cells #[.int .i64 0, .int .i64 0] 70);simpa [upd, n12] using hN
          · intro i u hi h;have i10 : i ≠ 10 := by rintro rfl; rw [hl] at hi; cases hi
            have i12 : i ≠ 12 := by rintro rfl; rw [n12] at hi; cases hi
            unfold Hv4V at h ⊢;split at h <;> first | exact h | exact absurd rfl i10 | exact absurd rfl i12
        · refine sS_ rfl fun sg ly act wx hl hd hW hF => ?_;simp [Region.binds] at hd;have et7 := hF.new 9 7 (by simp [hd]) rfl;simp [Hv4V, Act.eval] at et7;have et19 := hF.new 4 19 (by simp [hd]) rfl;simp [Hv4V, Act.eval] at et19;have y9 : ly 9 = true := by simp [hd]
          have hO := hW;try dsimp only at hO
          simp only [hl, y9, Bool.false_eq_true, if_false, if_true] at hO;have hh := hO.heap 0 rfl;have clq0 := (cOH hh 0).trans rfl;have flq0 := fOH hh 0;have clq1 := (cOH hh 1).trans rfl;have flq1 := fOH hh 1;have zz := hL_ hh;refine ⟨((wx.setCell ⟨sg.b1, 0, none⟩ (.int .i64 pa.x)).setCell ⟨sg.b1, 1, none⟩ (.int .i64 pa.y)), sg, .skip, by go_simp, .inl rfl, ?_, fun _ _ _ h => h⟩;have hN := hO.set 0 rfl (((Keep.refl _ _).setCell (.inl (by simp)) (.int .i64 pa.x)).setCell (.inl (by simp)) (.int .i64 pa.y)) (hS_ (hS_ (hh) 0 (.int .i64 pa.x)) 1 (.int .i64 pa.y));simpa [upd, y9, hl] using hN
        · refine sS_ rfl fun sg ly act wx hl hd hW hF => ?_;simp [Region.binds] at hd;have et8 := hF.new 10 8 (by simp [hd]) rfl;simp [Hv4V, Act.eval] at et8;have et23 := hF.new 8 23 (by simp [hd]) rfl;simp [Hv4V, Act.eval] at et23;have y10 : ly 10 = true := by simp [hd]
          have hO := hW;try dsimp only at hO
          simp only [hl, y10, Bool.false_eq_true, if_false, if_true] at hO;have hh := hO.heap 1 rfl;have clq0 := (cOH hh 0).trans rfl;have flq0 := fOH hh 0;have clq1 := (cOH hh 1).trans rfl;have flq1 := fOH hh 1;have zz := hL_ hh;refine ⟨((wx.setCell ⟨sg.b2, 0, none⟩ (.int .i64 pb.x)).setCell ⟨sg.b2, 1, none⟩ (.int .i64 pb.y)), sg, .skip, by go_simp, .inl rfl, ?_, fun _ _ _ h => h⟩;have hN := hO.set 1 rfl (((Keep.refl _ _).setCell (.inl (by simp)) (.int .i64 pb.x)).setCell (.inl (by simp)) (.int .i64 pb.y)) (hS_ (hS_ (hh) 0 (.int .i64 pb.x)) 1 (.int .i64 pb.y));simpa [upd, y10, hl] using hN
      intro sg af w8 hWW hF;have e7 := hF.new 9 7 (by decide) rfl;have e8 := hF.new 10 8 (by decide) rfl;obtain ⟨ff, hf, rfl⟩ := hF.lit;obtain ⟨b1, b2⟩ := sg;rw [← hf] at e7 e8;simp only [Hv4V] at e7 e8;have O8 : Own wr.heap.size wr [if (fun j => decide (j < List.length (_ : List Oper))) 9 = true then It.blk (HvS.mk b1 b2).b1 (.cells (if (fun j => decide (j < List.length (_ : List Oper))) 11 = true then #[.int .i64 pa.x, .int .i64 pa.y] else #[.int .i64 0, .int .i64 0]) 70) else noIt, if (fun j => decide (j < List.length (_ : List Oper))) 10 = true then It.blk (HvS.mk b1 b2).b2 (.cells (if (fun j => decide (j < List.length (_ : List Oper))) 12 = true then #[.int .i64 pb.x, .int .i64 pb.y] else #[.int .i64 0, .int .i64 0]) 70) else noIt] w8 := hWW;simp only [List.length_cons, List.length_nil, Nat.reduceAdd, Nat.reduceLT, decide_true, if_true] at O8;have h1 := O8.heap 0 rfl;have h2 := O8.heap 1 rfl;have y0 := (cOH h1 0).trans rfl;have y1 := (cOH h1 1).trans rfl;have x0 := (cOH h2 0).trans rfl;have x1 := (cOH h2 1).trans rfl;have z1 := hL_ h1;have z2 := hL_ h2;have H8 := Lib.hid (HB.out.1.trans (O8.bel.mono HB.out.1.size));clear hWW hF hf O8 h1 h2;simp only [List.filterMap, List.foldl, List.setIfInBounds_toArray, List.set_cons_succ, List.set_cons_zero, e7, e8];clear e7 e8;by_cases hle : x ≤ pb.x
      · have d1 : decide (x ≤ pb.x) = true := decide_eq_true hle;have b1 := mul_bd (A := 100000) (B := 1000) (a := pa.y) (b := pb.x - pa.x) (by omega) (by omega);have b2 := mul_bd (A := 100000) (B := 2000) (a := pb.y - pa.y) (b := x - pa.x) (by omega) (by omega);have e1 := HV.out.1;rw [if_pos hle] at e1;have HE := Lib.hid e1;clear e1;go_wp2_with fail
        go_quiet (fail);go_wp2_with fail
        go_ret2
        exact ⟨by rw [← HE.out]; rfl, below_drewN H8.out _⟩
      · have d1 : decide (x ≤ pb.x) = false := decide_eq_false hle;go_wp2_with fail
        go_roundg (gk - 1);case measure => omega
        case rel => exact ⟨k + 1, by omega, by omega, by go_num, by rw [Nat.add_sub_cancel, HV.out.2, ← HV.out.1, if_neg (by omega)], H8.out⟩
    · obtain ⟨n, hn⟩ : ∃ n, l.length = n + 1 := ⟨l.length - 1, by omega⟩;obtain rfl : j = n := by omega
      have gj := pnts_get (l := l) (k := j) (by omega);have hbw : b < wr.heap.size := Nat.lt_of_lt_of_le hb HB.out.1.size;have cj1 : wr.cell? ⟨b, off + j * 2 + 1, none⟩ = some (.int .i64 (l[j]'(by omega)).y) := (HB.out.1.cell (p := ⟨b, off + j * 2 + 1, none⟩) hb).trans (by rw [Nat.add_assoc]; exact HC.out.1 _ _ gj.2);have hv := HB.out.2;have hd : l.drop j = [l[j]'(by omega)] := by
        rw [List.drop_eq_getElem_cons (by omega)]
        congr 1
        exact List.drop_eq_nil_of_le (by omega)
      rw [hd, val] at hv;obtain ⟨y, hy⟩ : ∃ y, y = (l[j]'(by omega)).y := ⟨_, rfl⟩;rw [← hy] at hv cj1;have hnl : l.length - 1 = j := by omega
      have hlj : (l.length : Int) - 1 = (j : Int) := by omega
      have HV := Lib.hid hv;clear hv hd hy gj;have hlt' : ¬ k < l.length := hlt;go_wp2_with fail
      go_ret2
      exact ⟨by rw [← HV.out]; rfl, HB.out.1⟩
end Go.Proofs.Ytalcinepeofmcaa
