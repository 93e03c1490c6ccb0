import Derived.Test.YtalcinepeofmcaaGreatPBp0
import Derived.Test.YtalcinepeofmcaaGreatProg
import Derived.Laws.MakeOwn
set_option linter.unusedVariables false
set_option linter.unusedSimpArgs false
set_option maxRecDepth 100000
set_option maxHeartbeats 40000000
namespace Go.Proofs.YtalcinepeofmcaaGreat.Hu
theorem mul_bd {a b A B : Int} (h1 : -A ≤ a ∧ a ≤ A) (h2 : -B ≤ b ∧ b ≤ B) : -(A * B) ≤ a * b ∧ a * b ≤ A * B := by
  have h := Nat.mul_le_mul (show a.natAbs ≤ A.toNat by omega) (show b.natAbs ≤ B.toNat by omega);rw [← Int.natAbs_mul] at h;have e : A * B = ((A.toNat * B.toNat : Nat) : Int) := by rw [Int.natCast_mul, Int.toNat_of_nonneg (by omega), Int.toNat_of_nonneg (by omega)]
  rw [e];generalize A.toNat * B.toNat = n at *;omega
structure Pnt where
  x : Int
  y : Int
structure Shp where
  cls : Int
  pow : Int
  dra : Int
  ton : Int
  thr : List Pnt
  wat : List Pnt
  ice : List Pnt
  slow : Int
  brash : Int
  ridge : Int
  press : Int
def val : List Pnt → Int → Int × Int
  | [], _ => (0, 1)
  | [a], _ => (a.y, 1)
  | a :: b :: l, x => if x ≤ b.x then (a.y * (b.x - a.x) + (b.y - a.y) * (x - a.x), b.x - a.x) else val (b :: l) x
def endX (l : List Pnt) : Int := (l.getLastD ⟨0, 0⟩).x
def thrS (s : Shp) (v : Int) : Int := (val s.thr v).1 / (val s.thr v).2
structure Ic where
  con : Int
  thk : Int
  rid : Int
  prs : Int
def resN (s : Shp) (i : Ic) (ch : Bool) (v : Int) : Int :=
  i.con * ((val s.ice i.thk).1 * (1000 + s.slow * v) * (if ch then s.brash else 100) + s.ridge * (if ch then 0 else i.rid) * (val s.ice i.thk).2 * 100000)
def resD (s : Shp) (i : Ic) : Int := (val s.ice i.thk).2 * 10000000
def resA (s : Shp) (i : Ic) (ch : Bool) (v : Int) : Int :=
  (val s.wat v).1 * resD s i + resN s i ch v * (val s.wat v).2 + s.press * i.prs * (val s.wat v).2 * resD s i
def resB (s : Shp) (i : Ic) (v : Int) : Int := (val s.wat v).2 * resD s i
def res (s : Shp) (i : Ic) (ch : Bool) (v : Int) : Int := (resA s i ch v + resB s i v - 1) / resB s i v
def makes (s : Shp) (i : Ic) (ch : Bool) (v : Int) : Bool := decide (v ≤ endX s.thr) && decide (res s i ch v ≤ thrS s v)
structure Crv (l : List Pnt) : Prop where
  two : 2 ≤ l.length
  hd : ∀ p, l.head? = some p → p.x = 0
  rng : ∀ p ∈ l, 0 ≤ p.x ∧ p.x ≤ 400 ∧ 0 ≤ p.y ∧ p.y ≤ 20000
  inc : l.Pairwise (fun a b => a.x < b.x)
def Up (l : List Pnt) : Prop := l.Pairwise (fun a b => a.y ≤ b.y)
def Dn (l : List Pnt) : Prop := l.Pairwise (fun a b => b.y ≤ a.y)
def fle (p q : Int × Int) : Prop := p.1 * q.2 ≤ q.1 * p.2
def neg (l : List Pnt) : List Pnt := l.map fun p => ⟨p.x, -p.y⟩
theorem val_neg : ∀ (l : List Pnt) (x : Int), val (neg l) x = (-(val l x).1, (val l x).2)
  | [], _ => by simp [neg, val]
  | [a], _ => by simp [neg, val]
  | a :: b :: l, x => by
    have ih := val_neg (b :: l) x;simp only [neg, List.map_cons, val] at ih ⊢;split
    · simp only [Prod.mk.injEq, and_true];rw [Int.neg_add, Int.neg_mul, show -b.y - -a.y = -(b.y - a.y) by omega, Int.neg_mul]
    · exact ih
theorem val_pos : ∀ {l : List Pnt} {x : Int}, l.Pairwise (fun a b => a.x < b.x) → 0 < (val l x).2
  | [], _, _ => by simp [val]
  | [a], _, _ => by simp [val]
  | a :: b :: l, x, h => by
    have h1 := (List.pairwise_cons.1 h).1 b (by simp);have ih := val_pos (l := b :: l) (x := x) (List.pairwise_cons.1 h).2;unfold val;split
    · simp only; omega
    · exact ih
theorem val_den {M : Int} (hM : 1 ≤ M) : ∀ {l : List Pnt} {x : Int}, (∀ p ∈ l, 0 ≤ p.x ∧ p.x ≤ M) → (val l x).2 ≤ M
  | [], _, _ => by simpa [val] using hM
  | [a], _, _ => by simpa [val] using hM
  | a :: b :: l, x, h => by
    have h1 := h a (by simp);have h2 := h b (by simp);have ih := val_den hM (l := b :: l) (x := x) (fun p hp => h p (by simp [hp]));unfold val;split
    · simp only; omega
    · exact ih
theorem mix {p q c t D : Int} (h1 : c ≤ p) (h2 : c ≤ q) (t0 : 0 ≤ t) (t1 : t ≤ D) : c * D ≤ p * D + (q - p) * t := by
  have e : p * D + (q - p) * t = p * (D - t) + q * t := by rw [Int.mul_sub, Int.sub_mul]; omega
  have e2 : c * D = c * (D - t) + c * t := by rw [← Int.mul_add]; congr 1; omega
  rw [e, e2];have a1 := Int.mul_le_mul_of_nonneg_right h1 (show 0 ≤ D - t by omega);have a2 := Int.mul_le_mul_of_nonneg_right h2 t0;omega
theorem val_lo {c : Int} : ∀ {l : List Pnt} {x : Int}, l ≠ [] → l.Pairwise (fun a b => a.x < b.x) → (∀ p ∈ l, c ≤ p.y) → (∀ p, l.head? = some p → p.x ≤ x) → c * (val l x).2 ≤ (val l x).1
  | [], _, h0, _, _, _ => absurd rfl h0
  | [a], _, _, _, h, _ => by simpa [val] using h a (by simp)
  | a :: b :: l, x, _, hi, h, hx => by
    have h1 := h a (by simp);have h2 := h b (by simp);have h3 := hx a rfl;have h4 := (List.pairwise_cons.1 hi).1 b (by simp);unfold val;split
    · exact mix h1 h2 (by omega) (by omega)
    · exact val_lo (by simp) (List.pairwise_cons.1 hi).2 (fun p hp => h p (by simp [hp])) (fun p hp => by simp at hp; subst hp; omega)
theorem val_hi {c : Int} {l : List Pnt} {x : Int} (h0 : l ≠ []) (hi : l.Pairwise (fun a b => a.x < b.x)) (h : ∀ p ∈ l, p.y ≤ c) (hx : ∀ p, l.head? = some p → p.x ≤ x) : (val l x).1 ≤ c * (val l x).2 := by
  have := val_lo (c := -c) (l := neg l) (x := x) (by simp [neg, h0]) (by rw [neg, List.pairwise_map]; exact hi) (fun p hp => by
    simp only [neg, List.mem_map] at hp;obtain ⟨q, hq, rfl⟩ := hp;have := h q hq;simp only; omega) (fun p hp => by
    simp only [neg, List.head?_map, Option.map_eq_some_iff] at hp;obtain ⟨q, hq, rfl⟩ := hp;exact hx q hq)
  rw [val_neg] at this;simp only [Int.neg_mul] at this;omega
theorem mul3 {a b c : Int} (h : a ≤ b) (hc : 0 ≤ c) : a * c ≤ b * c := Int.mul_le_mul_of_nonneg_right h hc
theorem val_up : ∀ {l : List Pnt} {u v : Int}, l.Pairwise (fun a b => a.x < b.x) → Up l → (∀ p, l.head? = some p → p.x ≤ u) → u ≤ v → fle (val l u) (val l v)
  | [], _, _, _, _, _, _ => by simp [fle, val]
  | [a], _, _, _, _, _, _ => by simp [fle, val]
  | a :: b :: l, u, v, hi, hu, hx, huv => by
    obtain ⟨i1, i2⟩ := List.pairwise_cons.1 hi;obtain ⟨u1, u2⟩ := List.pairwise_cons.1 hu;have hab := i1 b (by simp);have yab := u1 b (by simp);have hax := hx a rfl;by_cases h1 : u ≤ b.x
    · have hd : 0 < b.x - a.x := by omega
      have e1 : val (a :: b :: l) u = (a.y * (b.x - a.x) + (b.y - a.y) * (u - a.x), b.x - a.x) := by unfold val; rw [if_pos h1]
      by_cases h2 : v ≤ b.x
      · have e2 : val (a :: b :: l) v = (a.y * (b.x - a.x) + (b.y - a.y) * (v - a.x), b.x - a.x) := by unfold val; rw [if_pos h2]
        rw [e1, e2];unfold fle;simp only;refine mul3 ?_ (by omega);have := Int.mul_le_mul_of_nonneg_left (show u - a.x ≤ v - a.x by omega) (show 0 ≤ b.y - a.y by omega);omega
      · have e2 : val (a :: b :: l) v = val (b :: l) v := by conv => lhs; unfold val; rw [if_neg h2]
        have hlo := val_lo (c := b.y) (l := b :: l) (x := v) (by simp) i2 (fun p hp => by
          rcases List.mem_cons.1 hp with rfl | hp
          · exact Int.le_refl _
          · exact (List.pairwise_cons.1 u2).1 p hp) (fun p hp => by simp at hp; subst hp; omega)
        have hp2 := val_pos (l := b :: l) (x := v) i2;rw [e1, e2];unfold fle;simp only;have g1 : a.y * (b.x - a.x) + (b.y - a.y) * (u - a.x) ≤ b.y * (b.x - a.x) := by
          have h3 := Int.mul_le_mul_of_nonneg_left (show u - a.x ≤ b.x - a.x by omega) (show 0 ≤ b.y - a.y by omega);have e : a.y * (b.x - a.x) + (b.y - a.y) * (b.x - a.x) = b.y * (b.x - a.x) := by rw [← Int.add_mul]; congr 1; omega
          omega
        have g2 := mul3 g1 (show 0 ≤ (val (b :: l) v).2 by omega);have g3 := mul3 hlo (show 0 ≤ b.x - a.x by omega);have e3 : b.y * (b.x - a.x) * (val (b :: l) v).2 = b.y * (val (b :: l) v).2 * (b.x - a.x) := by rw [Int.mul_assoc, Int.mul_assoc, Int.mul_comm (b.x - a.x)]
        omega
    · have e1 : val (a :: b :: l) u = val (b :: l) u := by conv => lhs; unfold val; rw [if_neg h1]
      have e2 : val (a :: b :: l) v = val (b :: l) v := by conv => lhs; unfold val; rw [if_neg (by omega)]
      rw [e1, e2];exact val_up i2 u2 (fun p hp => by simp at hp; subst hp; omega) huv
theorem div_le_of {a b k : Int} (hb : 0 < b) : (a + b - 1) / b ≤ k ↔ a ≤ k * b := by
  constructor
  · intro h;have h1 := Int.lt_mul_ediv_self_add (x := a + b - 1) hb;have h2 := Int.mul_le_mul_of_nonneg_left h (show 0 ≤ b by omega);rw [Int.mul_comm b k] at h2;omega
  · intro h;have : (a + b - 1) / b < k + 1 := by
      refine Int.ediv_lt_of_lt_mul hb ?_;rw [Int.add_mul]; omega
    omega
structure ShOk (s : Shp) : Prop where
  thr : Crv s.thr
  wat : Crv s.wat
  ice : Crv s.ice
  thrd : Dn s.thr
  watu : Up s.wat
  iceu : Up s.ice
  slow : 0 ≤ s.slow ∧ s.slow ≤ 20
  brash : 0 ≤ s.brash ∧ s.brash ≤ 100
  ridge : 0 ≤ s.ridge ∧ s.ridge ≤ 500
  press : 0 ≤ s.press ∧ s.press ≤ 5000
structure IcOk (i : Ic) : Prop where
  con : 0 ≤ i.con ∧ i.con ≤ 100
  thk : 0 ≤ i.thk ∧ i.thk ≤ 400
  rid : 0 ≤ i.rid ∧ i.rid ≤ 100
  prs : 0 ≤ i.prs ∧ i.prs ≤ 3
theorem Crv.ne {l : List Pnt} (h : Crv l) : l ≠ [] := fun e => by have := h.two; rw [e] at this; simp at this
theorem Crv.at {l : List Pnt} (h : Crv l) {x : Int} (hx : 0 ≤ x) : 0 < (val l x).2 ∧ (val l x).2 ≤ 400 ∧ 0 ≤ (val l x).1 ∧ (val l x).1 ≤ 20000 * (val l x).2 := by
  have hh : ∀ p, l.head? = some p → p.x ≤ x := fun p hp => by have := h.hd p hp; omega
  refine ⟨val_pos h.inc, val_den (by decide) (fun p hp => by have := h.rng p hp; omega), ?_, val_hi h.ne h.inc (fun p hp => (h.rng p hp).2.2.2) hh⟩;have := val_lo (c := 0) h.ne h.inc (fun p hp => (h.rng p hp).2.2.1) hh;omega
theorem Crv.hx {l : List Pnt} (h : Crv l) {x : Int} (hx : 0 ≤ x) : ∀ p, l.head? = some p → p.x ≤ x := fun p hp => by have := h.hd p hp; omega
theorem makes_iff {s : Shp} (h : ShOk s) (i : Ic) (ch : Bool) {v : Int} (hv : 0 ≤ v) (ht : 0 ≤ i.thk) : makes s i ch v = true ↔ v ≤ endX s.thr ∧ resA s i ch v ≤ thrS s v * resB s i v := by
  have hw := (h.wat.at hv).1;have hi := (h.ice.at ht).1;have hB : 0 < resB s i v := Int.mul_pos hw (by unfold resD; omega);unfold makes res;rw [Bool.and_eq_true, decide_eq_true_eq, decide_eq_true_eq, div_le_of hB]
theorem makes_t {s : Shp} (h : ShOk s) {con rid prs : Int} (hc : 0 ≤ con) (ch : Bool) {v t u : Int} (hv : 0 ≤ v) (ht : 0 ≤ t) (htu : t ≤ u) (hr : 0 ≤ rid) (hm : makes s ⟨con, u, rid, prs⟩ ch v = true) : makes s ⟨con, t, rid, prs⟩ ch v = true := by
  have hu : 0 ≤ u := by omega
  rw [makes_iff h _ ch hv hu] at hm;rw [makes_iff h _ ch hv ht];refine ⟨hm.1, ?_⟩;obtain ⟨w1, w2, w3, w4⟩ := h.wat.at hv;obtain ⟨t1, t2, t3, t4⟩ := h.ice.at ht;obtain ⟨u1, u2, u3, u4⟩ := h.ice.at hu;have hw := val_up h.ice.inc h.iceu (h.ice.hx ht) htu;unfold fle at hw;have hm2 := hm.2;unfold resA resB resN resD at hm2 ⊢;simp only at hm2 ⊢;generalize (val s.ice t).1 = a at *;generalize (val s.ice t).2 = b at *;generalize (val s.ice u).1 = c at *;generalize (val s.ice u).2 = d at *;generalize (val s.wat v).1 = wn at *;generalize (val s.wat v).2 = wd at *;have hs : 0 ≤ (if ch then s.brash else 100) := by have := h.brash; split <;> omega
  have hs2 : 0 ≤ 1000 + s.slow * v := by have := Int.mul_nonneg h.slow.1 hv; omega
  generalize (if ch then s.brash else 100) = sh at *;generalize 1000 + s.slow * v = sv at *;generalize s.ridge * (if ch then 0 else rid) = R at *;generalize s.press * prs = P at *;generalize thrS s v = T at *;refine Int.le_of_mul_le_mul_right ?_ u1;have k4 := mul3 hm2 (show 0 ≤ b by omega);have e1 : wn * (b * 10000000) * d = wn * (d * 10000000) * b := by
    rw [Int.mul_assoc, Int.mul_assoc wn]; congr 1;rw [Int.mul_comm b, Int.mul_comm d, Int.mul_assoc, Int.mul_assoc, Int.mul_comm b d]
  have e3 : P * wd * (b * 10000000) * d = P * wd * (d * 10000000) * b := by
    rw [Int.mul_assoc, Int.mul_assoc (P * wd)]; congr 1;rw [Int.mul_comm b, Int.mul_comm d, Int.mul_assoc, Int.mul_assoc, Int.mul_comm b d]
  have e4 : T * (wd * (b * 10000000)) * d = T * (wd * (d * 10000000)) * b := by
    rw [Int.mul_assoc, Int.mul_assoc T]; congr 1;rw [Int.mul_assoc, Int.mul_assoc wd]; congr 1;rw [Int.mul_comm b, Int.mul_comm d, Int.mul_assoc, Int.mul_assoc, Int.mul_comm b d]
  have k2 : con * (a * sv * sh + R * b * 100000) * wd * d ≤ con * (c * sv * sh + R * d * 100000) * wd * b := by
    have g1 : (a * sv * sh + R * b * 100000) * d ≤ (c * sv * sh + R * d * 100000) * b := by
      rw [Int.add_mul, Int.add_mul];have h1 := mul3 (mul3 hw hs2) hs;have f1 : a * sv * sh * d = a * d * sv * sh := by rw [Int.mul_assoc a, Int.mul_assoc, Int.mul_comm (sv * sh) d, ← Int.mul_assoc, ← Int.mul_assoc]
      have f2 : c * sv * sh * b = c * b * sv * sh := by rw [Int.mul_assoc c, Int.mul_assoc, Int.mul_comm (sv * sh) b, ← Int.mul_assoc, ← Int.mul_assoc]
      have f3 : R * b * 100000 * d = R * d * 100000 * b := by rw [Int.mul_right_comm (R * b) 100000 d, Int.mul_right_comm R b d, Int.mul_right_comm (R * d) 100000 b]
      omega
    have g2 := Int.mul_le_mul_of_nonneg_left g1 (Int.mul_nonneg hc (show 0 ≤ wd by omega));have f1 : ∀ X Y : Int, con * X * wd * Y = con * wd * (X * Y) := fun X Y => by
      rw [Int.mul_assoc con X, Int.mul_comm X wd, ← Int.mul_assoc con, Int.mul_assoc]
    rw [f1, f1];exact g2
  rw [Int.add_mul, Int.add_mul];rw [Int.add_mul, Int.add_mul] at k4;omega
end Go.Proofs.YtalcinepeofmcaaGreat.Hu
namespace Go.Proofs.YtalcinepeofmcaaGreat.Pt
open Sp
def limOk (m : Mp) (b : Int) : Prop := m.most = NL ∨ b ≤ m.most
def ap (m : Mp) (b : Int) : Int := max (b + m.add) m.floor
structure Gm (m : Mp) : Prop where
  add : -4000 ≤ m.add ∧ m.add ≤ 100
  flo : 0 ≤ m.floor ∧ m.floor ≤ 100
  lo : 0 ≤ m.most
  hi : m.most = NL ∨ m.most ≤ 1000000
structure Jm (k : Nat) (m : Mp) : Prop where
  add : -(4000 * (k : Int)) ≤ m.add ∧ m.add ≤ 100 * k
  flo : 0 ≤ m.floor ∧ m.floor ≤ 100 * k
  lo : -1 ≤ m.most
  hi : m.most ≤ NL
  lt : m.most = NL ∨ m.most ≤ 1000000 + 4000 * k
theorem join_sem {k : Nat} {a m : Mp} (ha : Jm k a) (hm : Gm m) (hk : k ≤ 800) {b : Int} (hb : 0 ≤ b) :
    (limOk (join1 a m) b ↔ limOk a b ∧ limOk m (ap a b)) ∧ ap (join1 a m) b = ap m (ap a b) ∧ Jm (k + 1) (join1 a m) := by
  obtain ⟨⟨a1, a1'⟩, ⟨a2, a2'⟩, a3, a4, a5⟩ := ha;obtain ⟨⟨m1, m1'⟩, ⟨m2, m2'⟩, m3, m4⟩ := hm;have h := joinL_cases a m;refine ⟨?_, ?_, ?_⟩
  · simp only [limOk, ap, join1, NL] at *;omega
  · simp only [ap, join1];omega
  · refine ⟨?_, ?_, ?_, ?_, ?_⟩ <;> simp only [join1, NL] at * <;> omega
theorem fold_jm {l : List Mp} (hl : ∀ m ∈ l, Gm m) : ∀ {k : Nat} {a : Mp}, Jm k a → k + l.length ≤ 800 → Jm (k + l.length) (l.foldl join1 a) := by
  induction l with
  | nil => intro k a ha _; exact ha
  | cons m l ih =>
    intro k a ha hk;simp only [List.length_cons] at hk;obtain ⟨_, _, h3⟩ := join_sem ha (hl m (by simp)) (by omega) (Int.le_refl 0);have := ih (fun x hx => hl x (by simp [hx])) h3 (by omega);rw [List.foldl_cons, List.length_cons, show k + (l.length + 1) = k + 1 + l.length from by omega];exact this
theorem id_jm : Jm 0 id1 := ⟨by decide, by decide, by decide, by decide, .inl rfl⟩
structure Val (p : Prt) (l : Pln) : Prop where
  nc : 1 ≤ p.chs.length ∧ p.chs.length ≤ 6
  nb : 1 ≤ p.bts.length ∧ p.bts.length ≤ 4
  h : 1 ≤ l.hours ∧ l.hours ≤ 100
  nx : l.calls.length ≤ 60 ∧ l.swps.length ≤ 200
  chf : ∀ c ∈ p.chs, 0 ≤ c.grow ∧ c.grow ≤ 100 ∧ 0 ≤ c.frost ∧ c.frost ≤ 20 ∧ 1 ≤ c.clear ∧ c.clear ≤ 200
  btf : ∀ b ∈ p.bts, b.path ≠ [] ∧ b.path.Nodup ∧ ∀ x ∈ b.path, 0 ≤ x ∧ x < p.chs.length
  ca : ∀ c ∈ l.calls, 0 ≤ c.berth ∧ c.berth < p.bts.length ∧ 0 ≤ c.most ∧ c.most ≤ 1000000 ∧ 0 ≤ c.hour ∧ c.hour < l.hours
  sw : ∀ s ∈ l.swps, 0 ≤ s.channel ∧ s.channel < p.chs.length ∧ 1 ≤ s.tugs ∧ s.tugs ≤ 20 ∧ 0 ≤ s.hour ∧ s.hour < l.hours
theorem ch_mem {p : Prt} {i : Int} (h0 : 0 ≤ i) (h1 : i < p.chs.length) : ch p i ∈ p.chs := by
  unfold ch;have : i.toNat < p.chs.length := by omega
  rw [List.getD_eq_getElem?_getD, List.getElem?_eq_getElem this];exact List.getElem_mem _
theorem bt_mem {p : Prt} {i : Int} (h0 : 0 ≤ i) (h1 : i < p.bts.length) : bt p i ∈ p.bts := by
  unfold bt;have : i.toNat < p.bts.length := by omega
  rw [List.getD_eq_getElem?_getD, List.getElem?_eq_getElem this];exact List.getElem_mem _
def swMaps (p : Prt) (c h : Int) (l : List Swp) : List Mp := (l.filter fun s => decide (s.hour = h) && decide (s.channel = c)).map fun s => ⟨-s.tugs * (ch p c).clear, 0, NL⟩
def caMaps (p : Prt) (c h : Int) (l : List Cal) : List Mp := (l.filter fun x => decide (x.hour = h) && (bt p x.berth).path.contains c).map fun x => ⟨(ch p c).grow, (ch p c).grow, x.most⟩
theorem mapsH_eq (p : Prt) (l : Pln) (c : Int) (h : Nat) : mapsH p l c h = swMaps p c h l.swps ++ (caMaps p c h l.calls ++ [⟨(ch p c).frost, (ch p c).frost, NL⟩]) := rfl
theorem Val.chn {p : Prt} {l : Pln} (v : Val p l) {c : Int} (c0 : 0 ≤ c) (c1 : c < p.chs.length) : 0 ≤ (ch p c).grow ∧ (ch p c).grow ≤ 100 ∧ 0 ≤ (ch p c).frost ∧ (ch p c).frost ≤ 20 ∧ 1 ≤ (ch p c).clear ∧ (ch p c).clear ≤ 200 := v.chf _ (ch_mem c0 c1)
theorem swMaps_gm {p : Prt} {l : Pln} (v : Val p l) {c : Int} (c0 : 0 ≤ c) (c1 : c < p.chs.length) (h : Int) : ∀ m ∈ swMaps p c h l.swps, Gm m := by
  intro m hm;unfold swMaps at hm;obtain ⟨s, hs, rfl⟩ := List.mem_map.1 hm;have h1 := v.sw s (List.mem_filter.1 hs).1;have h2 := v.chn c0 c1;have h3 : s.tugs * (ch p c).clear ≤ 20 * 200 := Int.mul_le_mul (by omega) (by omega) (by omega) (by omega);have h4 : 0 ≤ s.tugs * (ch p c).clear := Int.mul_nonneg (by omega) (by omega);refine ⟨?_, ⟨Int.le_refl _, by simp only; omega⟩, by simp [NL], .inl rfl⟩;simp only;rw [Int.neg_mul];omega
theorem caMaps_gm {p : Prt} {l : Pln} (v : Val p l) {c : Int} (c0 : 0 ≤ c) (c1 : c < p.chs.length) (h : Int) : ∀ m ∈ caMaps p c h l.calls, Gm m := by
  intro m hm;unfold caMaps at hm;obtain ⟨x, hx, rfl⟩ := List.mem_map.1 hm;have h1 := v.ca x (List.mem_filter.1 hx).1;have h2 := v.chn c0 c1;exact ⟨⟨by simp only; omega, by simp only; omega⟩, ⟨by simp only; omega, by simp only; omega⟩, by simp only; omega, .inr (by simp only; omega)⟩
theorem frMap_gm {p : Prt} {l : Pln} (v : Val p l) {c : Int} (c0 : 0 ≤ c) (c1 : c < p.chs.length) : Gm ⟨(ch p c).frost, (ch p c).frost, NL⟩ := by
  have h2 := v.chn c0 c1;exact ⟨⟨by simp only; omega, by simp only; omega⟩, ⟨by simp only; omega, by simp only; omega⟩, by simp [NL], .inl rfl⟩
theorem mapsH_gm {p : Prt} {l : Pln} (v : Val p l) {c : Int} (c0 : 0 ≤ c) (c1 : c < p.chs.length) (h : Nat) : ∀ m ∈ mapsH p l c h, Gm m := by
  intro m hm;rw [mapsH_eq] at hm;rcases List.mem_append.1 hm with q | q
  · exact swMaps_gm v c0 c1 h m q
  rcases List.mem_append.1 q with q | q
  · exact caMaps_gm v c0 c1 h m q
  · rw [List.mem_singleton.1 q]; exact frMap_gm v c0 c1
def mapsF (p : Prt) (l : Pln) (c : Int) (k n : Nat) : List Mp := (List.range' k n).flatMap (mapsH p l c)
theorem mapsF_succ (p : Prt) (l : Pln) (c : Int) (k n : Nat) : mapsF p l c k (n + 1) = mapsH p l c k ++ mapsF p l c (k + 1) n := by simp [mapsF, List.range'_succ]
theorem mapsS_eq (p : Prt) (l : Pln) (c : Int) : mapsS p l c = mapsF p l c 0 l.hours.toNat := by unfold mapsS mapsF; rw [List.range_eq_range']
theorem filt_two {T : Type} (f : T → Int) (k n : Int) (hn : 0 ≤ n) (l : List T) : (l.filter fun x => decide (f x = k)).length + (l.filter fun x => decide (k + 1 ≤ f x) && decide (f x < k + 1 + n)).length = (l.filter fun x => decide (k ≤ f x) && decide (f x < k + (n + 1))).length := by
  induction l with
  | nil => rfl
  | cons x l ih =>
    by_cases h1 : f x = k
    · rw [List.filter_cons_of_pos (by simp [h1]), List.filter_cons_of_neg (by simp; omega), List.filter_cons_of_pos (by simp; omega), List.length_cons, List.length_cons]; omega
    · by_cases h2 : k + 1 ≤ f x ∧ f x < k + 1 + n
      · rw [List.filter_cons_of_neg (by simp [h1]), List.filter_cons_of_pos (by simpa using h2), List.filter_cons_of_pos (by simp; omega), List.length_cons, List.length_cons]; omega
      · rw [List.filter_cons_of_neg (by simp [h1]), List.filter_cons_of_neg (by simpa using h2), List.filter_cons_of_neg (by simp; omega)]; exact ih
theorem filt_and_le {T : Type} (f g : T → Bool) (l : List T) : (l.filter fun x => f x && g x).length ≤ (l.filter f).length := by
  induction l with
  | nil => exact Nat.le_refl _
  | cons x l ih => cases h1 : f x <;> cases h2 : g x <;> simp [List.filter_cons, h1, h2] <;> omega
theorem mapsF_length (p : Prt) (l : Pln) (c : Int) : ∀ (n k : Nat), (mapsF p l c k n).length ≤ (l.swps.filter fun x => decide ((k : Int) ≤ x.hour) && decide (x.hour < (k : Int) + n)).length + (l.calls.filter fun x => decide ((k : Int) ≤ x.hour) && decide (x.hour < (k : Int) + n)).length + n
  | 0, k => by simp [mapsF]
  | n + 1, k => by
    have ih := mapsF_length p l c n (k + 1);have e1 := filt_two (fun x : Swp => x.hour) k n (by omega) l.swps;have e2 := filt_two (fun x : Cal => x.hour) k n (by omega) l.calls;have e3 := filt_and_le (fun x : Swp => decide (x.hour = (k : Int))) (fun x => decide (x.channel = c)) l.swps;have e4 := filt_and_le (fun x : Cal => decide (x.hour = (k : Int))) (fun x => (bt p x.berth).path.contains c) l.calls;rw [mapsF_succ, List.length_append, mapsH_eq, List.length_append, List.length_append];simp only [swMaps, caMaps, List.length_map, List.length_singleton];simp only [Int.natCast_add, Int.natCast_one] at *;omega
theorem mapsS_length {p : Prt} {l : Pln} (v : Val p l) (c : Int) : (mapsS p l c).length ≤ 360 := by
  rw [mapsS_eq];have h := mapsF_length p l c l.hours.toNat 0;have h1 := List.length_filter_le (fun x : Swp => decide (((0 : Nat) : Int) ≤ x.hour) && decide (x.hour < ((0 : Nat) : Int) + (l.hours.toNat : Nat))) l.swps;have h2 := List.length_filter_le (fun x : Cal => decide (((0 : Nat) : Int) ≤ x.hour) && decide (x.hour < ((0 : Nat) : Int) + (l.hours.toNat : Nat))) l.calls;have := v.nx;have := v.h;omega
theorem mapsS_gm {p : Prt} {l : Pln} (v : Val p l) {c : Int} (c0 : 0 ≤ c) (c1 : c < p.chs.length) : ∀ m ∈ mapsS p l c, Gm m := by
  intro m hm;unfold mapsS at hm;obtain ⟨h, _, h2⟩ := List.mem_flatMap.1 hm;exact mapsH_gm v c0 c1 h m h2
theorem foldS_jm {p : Prt} {l : Pln} (v : Val p l) {c : Int} (c0 : 0 ≤ c) (c1 : c < p.chs.length) : Jm 360 (foldS p l c) := by
  have h := fold_jm (mapsS_gm v c0 c1) id_jm (by have := mapsS_length v c; omega);have hl := mapsS_length v c;obtain ⟨⟨a, a'⟩, ⟨b, b'⟩, d, e, f⟩ := h;refine ⟨⟨?_, ?_⟩, ⟨b, ?_⟩, d, e, ?_⟩ <;> simp only [foldS] at * <;> omega
theorem within_iff {n a b : Int} : within n a b = true ↔ a ≤ n ∧ n ≤ b := by simp [within]
theorem pathOk_get {n : Int} {l : List Int} : ∀ {m : Nat}, pathOk n l m = true → ∀ k, k < m → within (l.getD k 0) 0 (n - 1) = true ∧ (l.take k).contains (l.getD k 0) = false
  | 0, _, k, hk => absurd hk (by omega)
  | m + 1, h, k, hk => by
    rw [pathOk, Bool.and_eq_true, Bool.and_eq_true] at h;by_cases e : k = m
    · subst e; exact ⟨h.2.1, by simpa using h.2.2⟩
    · exact pathOk_get h.1 k (by omega)
theorem path_ok {n : Int} {l : List Int} (h : pathOk n l l.length = true) : l.Nodup ∧ ∀ x ∈ l, 0 ≤ x ∧ x < n := by
  refine ⟨?_, fun x hx => ?_⟩
  · rw [List.nodup_iff_pairwise_ne];rw [List.pairwise_iff_getElem];intro i j hi hj hij e;have := (pathOk_get h j hj).2;rw [List.getD_eq_getElem?_getD, List.getElem?_eq_getElem hj, Option.getD_some, ← e] at this;simp only [List.contains_eq_mem, decide_eq_false_iff_not] at this;exact this (List.mem_take_iff_getElem.2 ⟨i, by omega, rfl⟩)
  · obtain ⟨k, hk, rfl⟩ := List.mem_iff_getElem.1 hx;have := (pathOk_get h k hk).1;rw [List.getD_eq_getElem?_getD, List.getElem?_eq_getElem hk, Option.getD_some, within_iff] at this;omega
theorem nodup_range_le : ∀ {n : Nat} {l : List Int}, l.Nodup → (∀ x ∈ l, 0 ≤ x ∧ x < n) → l.length ≤ n
  | 0, l, _, h => by
    cases l with
    | nil => exact Nat.le_refl _
    | cons x l => have := h x (by simp); omega
  | n + 1, l, hn, h => by
    have h1 := nodup_range_le (n := n) (l := l.filter (fun x => decide (x ≠ (n : Int)))) (hn.filter _) (fun x hx => by
      have h2 := List.mem_filter.1 hx;have h3 := h x h2.1;have h4 : x ≠ (n : Int) := by simpa using h2.2
      omega)
    have h5 : l.length ≤ (l.filter (fun x => decide (x ≠ (n : Int)))).length + 1 := by
      clear h h1;induction l with
      | nil => simp
      | cons x l ih =>
        obtain ⟨h6, h7⟩ := List.nodup_cons.1 hn;by_cases e : x = (n : Int)
        · subst e;have : l.filter (fun x => decide (x ≠ (n : Int))) = l := List.filter_eq_self.2 fun y hy => by
            simp only [ne_eq, decide_eq_true_eq];rintro rfl;exact h6 hy
          rw [List.filter_cons_of_neg (by simp), this, List.length_cons];omega
        · rw [List.filter_cons_of_pos (by simpa using e), List.length_cons, List.length_cons];have := ih h7;omega
    omega
structure PVal (p : Prt) : Prop where
  nc : 1 ≤ p.chs.length ∧ p.chs.length ≤ 6
  nb : 1 ≤ p.bts.length ∧ p.bts.length ≤ 4
  tg : 0 ≤ p.tugs ∧ p.tugs ≤ 20
  chf : ∀ c ∈ p.chs, 0 ≤ c.grow ∧ c.grow ≤ 100 ∧ 0 ≤ c.frost ∧ c.frost ≤ 20 ∧ 1 ≤ c.clear ∧ c.clear ≤ 200
  btf : ∀ b ∈ p.bts, 10 ≤ b.depth ∧ b.depth ≤ 3000 ∧ b.path ≠ [] ∧ b.path.Nodup ∧ ∀ x ∈ b.path, 0 ≤ x ∧ x < p.chs.length
theorem checkP_ok {p : Prt} (h : checkP p = 0) : PVal p := by
  unfold checkP at h;split at h
  · cases h
  split at h
  · cases h
  split at h
  · cases h
  split at h
  · cases h
  rename_i h1 h2 h3 h4
  simp only [Bool.not_eq_false] at h1 h2 h3 h4;rw [Bool.and_eq_true, within_iff, within_iff] at h1;rw [within_iff] at h2;refine ⟨by omega, by omega, h2, fun c hc => ?_, fun b hb => ?_⟩
  · have := List.all_eq_true.1 h3 c hc;unfold Pt.chOk at this;simp only [Bool.and_eq_true, within_iff] at this;omega
  · have := List.all_eq_true.1 h4 b hb;unfold btOk at this;simp only [Bool.and_eq_true, within_iff] at this;obtain ⟨a1, a2, a3⟩ := this;obtain ⟨q1, q2⟩ := path_ok a3;exact ⟨a1.1, a1.2, by rintro e; rw [e] at a2; simp at a2, q1, q2⟩
theorem callE_ok {p : Prt} {h : Int} {c : Cal} {f : Int} (e : callE p h c f = 0) : 0 ≤ c.berth ∧ c.berth < p.bts.length ∧ 0 ≤ c.most ∧ c.most ≤ 1000000 ∧ 0 ≤ c.tugs ∧ c.tugs ≤ 20 ∧ 10 ≤ c.draught ∧ c.draught ≤ (bt p c.berth).depth ∧ 0 ≤ c.hour ∧ c.hour < h ∧ f ≤ c.hour := by
  unfold callE at e;split at e
  · cases e
  split at e
  · cases e
  split at e
  · cases e
  split at e
  · cases e
  rename_i h1 h2 h3 h4
  simp only [Bool.not_eq_false, Bool.and_eq_true, within_iff] at h1 h2 h3;omega
theorem callsE_ok {p : Prt} {h : Int} : ∀ {l : List Cal} {f : Int}, callsE p h f l = 0 → (∀ c ∈ l, 0 ≤ c.berth ∧ c.berth < p.bts.length ∧ 0 ≤ c.most ∧ c.most ≤ 1000000 ∧ 0 ≤ c.tugs ∧ c.tugs ≤ 20 ∧ 10 ≤ c.draught ∧ c.draught ≤ (bt p c.berth).depth ∧ 0 ≤ c.hour ∧ c.hour < h ∧ f ≤ c.hour) ∧ l.Pairwise (fun a b => a.hour ≤ b.hour)
  | [], _, _ => ⟨by simp, List.Pairwise.nil⟩
  | c :: l, f, e => by
    rw [callsE] at e;split at e
    · rename_i h1; exact absurd e h1
    · rename_i h1
      have h1 : callE p h c f = 0 := by simpa using h1
      have h2 := callE_ok h1;obtain ⟨h3, h4⟩ := callsE_ok e;refine ⟨fun x hx => ?_, List.pairwise_cons.2 ⟨fun x hx => by have := h3 x hx; omega, h4⟩⟩;rcases List.mem_cons.1 hx with rfl | hx
      · exact h2
      · have := h3 x hx; omega
theorem swpsE_ok {p : Prt} {h : Int} : ∀ {l : List Swp}, swpsE p h l = 0 → ∀ s ∈ l, 0 ≤ s.channel ∧ s.channel < p.chs.length ∧ 1 ≤ s.tugs ∧ s.tugs ≤ 20 ∧ 0 ≤ s.hour ∧ s.hour < h
  | [], _, s, hs => by simp at hs
  | x :: l, e, s, hs => by
    rw [swpsE] at e;split at e
    · rename_i h1; exact absurd e h1
    · rename_i h1
      have h1 : swpE p h x = 0 := by simpa using h1
      rcases List.mem_cons.1 hs with rfl | hs
      · unfold swpE at h1;split at h1
        · cases h1
        split at h1
        · cases h1
        rename_i h2 h3
        simp only [Bool.not_eq_false, Bool.and_eq_true, within_iff] at h2 h3;omega
      · exact swpsE_ok e s hs
theorem checkL_ok {p : Prt} {l : Pln} (h : checkL p l = 0) : checkP p = 0 ∧ (l.calls.length ≤ 60 ∧ l.swps.length ≤ 200) ∧ (1 ≤ l.hours ∧ l.hours ≤ 100) ∧ callsE p l.hours 0 l.calls = 0 ∧ swpsE p l.hours l.swps = 0 ∧
    finE p.tugs (l.swps.foldl addSwp (tlyCalls p l.hours.toNat l.calls).tugs) (tlyCalls p l.hours.toNat l.calls).twice 0 l.hours.toNat = 0 := by
  unfold checkL at h;split at h
  · rename_i h1; exact absurd h h1
  split at h
  · cases h
  split at h
  · cases h
  split at h
  · rename_i h1; exact absurd h h1
  split at h
  · rename_i h1; exact absurd h h1
  rename_i h1 h2 h3 h4 h5
  simp only [Bool.not_eq_false, within_iff] at h3;exact ⟨by simpa using h1, by omega, h3, by simpa using h4, by simpa using h5, h⟩
theorem val_of {p : Prt} {l : Pln} (h : checkL p l = 0) : Val p l := by
  obtain ⟨h1, h2, h3, h4, h5, _⟩ := checkL_ok h;have hp := checkP_ok h1;obtain ⟨h6, _⟩ := callsE_ok h4;have h7 := swpsE_ok h5;exact ⟨hp.nc, hp.nb, h3, h2, hp.chf, fun b hb => (hp.btf b hb).2.2, fun c hc => by have := h6 c hc; omega, fun s hs => by have := h7 s hs; omega⟩
theorem hit_tugs (h : Int) (l : List Int) : ∀ t : Tly, (l.foldl (hit1 h) t).tugs = t.tugs := by
  induction l with
  | nil => intro t; rfl
  | cons n l ih => intro t; rw [List.foldl_cons, ih]; rfl
theorem getI_setI_bd {l : List Int} {k x B : Int} (hk : 0 ≤ k) (hl : ∀ j, -B ≤ getI l j ∧ getI l j ≤ B) (hx : -B ≤ x ∧ x ≤ B) : ∀ j, -B ≤ getI (setI l k x) j ∧ getI (setI l k x) j ≤ B := by
  intro j;have h0 := hl j;unfold getI setI at *;simp only [List.getD_eq_getElem?_getD, List.getElem?_set] at *;split
  · split
    · simpa using hx
    · have := hl (l.length : Int); simp at this; simpa using (by omega : -B ≤ 0 ∧ 0 ≤ B)
  · exact h0
theorem tly_bd (p : Prt) : ∀ (l : List Cal) (t : Tly) (B : Int), (∀ j, -B ≤ getI t.tugs j ∧ getI t.tugs j ≤ B) → (∀ c ∈ l, 0 ≤ c.hour ∧ 0 ≤ c.tugs ∧ c.tugs ≤ 20) →
    ∀ j, -(B + 20 * l.length) ≤ getI (l.foldl (tlyCall p) t).tugs j ∧ getI (l.foldl (tlyCall p) t).tugs j ≤ B + 20 * l.length
  | [], t, B, h, _, j => by simpa using h j
  | c :: l, t, B, h, hc, j => by
    obtain ⟨c1, c2, c3⟩ := hc c (by simp);have h1 : ∀ j, -(B + 20) ≤ getI (tlyCall p t c).tugs j ∧ getI (tlyCall p t c).tugs j ≤ B + 20 := by
      rw [tlyCall, hit_tugs];refine getI_setI_bd c1 (fun j => by have := h j; omega) ?_;have := h c.hour;omega
    have := tly_bd p l (tlyCall p t c) (B + 20) h1 (fun x hx => hc x (by simp [hx])) j;rw [List.foldl_cons, List.length_cons];omega
theorem swp_bd : ∀ (l : List Swp) (t : List Int) (B : Int), (∀ j, -B ≤ getI t j ∧ getI t j ≤ B) → (∀ s ∈ l, 0 ≤ s.hour ∧ 0 ≤ s.tugs ∧ s.tugs ≤ 20) →
    ∀ j, -(B + 20 * l.length) ≤ getI (l.foldl addSwp t) j ∧ getI (l.foldl addSwp t) j ≤ B + 20 * l.length
  | [], t, B, h, _, j => by simpa using h j
  | c :: l, t, B, h, hc, j => by
    obtain ⟨c1, c2, c3⟩ := hc c (by simp);have h1 : ∀ j, -(B + 20) ≤ getI (addSwp t c) j ∧ getI (addSwp t c) j ≤ B + 20 := by
      refine getI_setI_bd c1 (fun j => by have := h j; omega) ?_;have := h c.hour;omega
    have := swp_bd l (addSwp t c) (B + 20) h1 (fun x hx => hc x (by simp [hx])) j;rw [List.foldl_cons, List.length_cons];omega
theorem tly0_get (H : Nat) (j : Int) : getI (tly0 H).tugs j = 0 := by
  unfold getI tly0;simp only [List.getD_eq_getElem?_getD, List.getElem?_replicate];split <;> rfl
end Go.Proofs.YtalcinepeofmcaaGreat.Pt
namespace Go.Proofs.YtalcinepeofmcaaGreat.Hu
open Sp (within)
def incB : List Pnt → Bool
  | a :: b :: l => decide (a.x < b.x) && incB (b :: l)
  | _ => true
def wayB (k : Int) : List Pnt → Bool
  | a :: b :: l => decide (0 ≤ (b.y - a.y) * k) && wayB k (b :: l)
  | _ => true
def pntB (p : Pnt) : Bool := within p.x 0 400 && within p.y 0 20000
def curveB (l : List Pnt) : Bool := within l.length 2 8 && decide ((l.headD ⟨1, 0⟩).x = 0) && l.all pntB && incB l
def steadyB (l : List Pnt) (k : Int) : Bool := curveB l && wayB k l
def shipE (s : Shp) : Int :=
  if within s.cls 1 6 = false then 41
  else if (within s.pow 100 100000 && within s.dra 10 2000 && within s.ton 10 500000) = false then 40
  else if (within s.slow 0 20 && within s.brash 0 100 && within s.ridge 0 500 && within s.press 0 5000) = false then 40
  else if (steadyB s.thr (-1) && within (endX s.thr) 10 250) = false then 40
  else if (steadyB s.wat 1 && decide (endX s.wat ≤ 250)) = false then 40
  else if (steadyB s.ice 1 && decide ((s.ice.headD ⟨0, 1⟩).y = 0) && decide (endX s.ice = 400)) = false then 40
  else 0
theorem incB_iff : ∀ {l : List Pnt}, incB l = true ↔ l.Pairwise (fun a b => a.x < b.x)
  | [] => by simp [incB]
  | [a] => by simp [incB]
  | a :: b :: l => by
    rw [incB, Bool.and_eq_true, incB_iff (l := b :: l), decide_eq_true_eq];constructor
    · rintro ⟨h1, h2⟩;refine List.pairwise_cons.2 ⟨fun x hx => ?_, h2⟩;rcases List.mem_cons.1 hx with rfl | hx
      · exact h1
      · have := (List.pairwise_cons.1 h2).1 x hx; omega
    · intro h;exact ⟨(List.pairwise_cons.1 h).1 b (by simp), (List.pairwise_cons.1 h).2⟩
theorem wayB_iff {k : Int} : ∀ {l : List Pnt}, wayB k l = true ↔ l.Pairwise (fun a b => a.y * k ≤ b.y * k)
  | [] => by simp [wayB]
  | [a] => by simp [wayB]
  | a :: b :: l => by
    rw [wayB, Bool.and_eq_true, wayB_iff (l := b :: l), decide_eq_true_eq, Int.sub_mul];constructor
    · rintro ⟨h1, h2⟩;refine List.pairwise_cons.2 ⟨fun x hx => ?_, h2⟩;rcases List.mem_cons.1 hx with rfl | hx
      · omega
      · have := (List.pairwise_cons.1 h2).1 x hx; omega
    · intro h;have := (List.pairwise_cons.1 h).1 b (by simp);exact ⟨by omega, (List.pairwise_cons.1 h).2⟩
theorem curveB_crv {l : List Pnt} (h : curveB l = true) : Crv l ∧ l.length ≤ 8 := by
  unfold curveB at h;simp only [Bool.and_eq_true, Pt.within_iff, decide_eq_true_eq, List.all_eq_true, pntB] at h;obtain ⟨⟨⟨h1, h2⟩, h3⟩, h4⟩ := h;refine ⟨⟨by omega, fun p hp => ?_, fun p hp => ?_, incB_iff.1 h4⟩, by omega⟩
  · cases l with
    | nil => cases hp
    | cons a l => simp at hp; subst hp; exact h2
  · have := h3 p hp; omega
theorem shipE_ok {s : Shp} (h : shipE s = 0) : ShOk s ∧ 10 ≤ endX s.thr ∧ endX s.thr ≤ 250 ∧ endX s.wat ≤ 250 ∧ endX s.ice = 400 ∧ s.thr.length ≤ 8 ∧ s.wat.length ≤ 8 ∧ s.ice.length ≤ 8 ∧ (1 ≤ s.cls ∧ s.cls ≤ 6) ∧ (100 ≤ s.pow ∧ s.pow ≤ 100000) := by
  unfold shipE at h;split at h
  · cases h
  next h1 =>
  split at h
  · cases h
  next h2 =>
  split at h
  · cases h
  next h3 =>
  split at h
  · cases h
  next h4 =>
  split at h
  · cases h
  next h5 =>
  split at h
  · cases h
  next h6 =>
  simp only [steadyB, Bool.not_eq_false, Bool.and_eq_true, Pt.within_iff, decide_eq_true_eq] at h1 h2 h3 h4 h5 h6;obtain ⟨⟨a1, a2⟩, a3⟩ := h4;obtain ⟨⟨b1, b2⟩, b3⟩ := h5;obtain ⟨⟨⟨c1, c2⟩, c3⟩, c4⟩ := h6;refine ⟨⟨(curveB_crv a1).1, (curveB_crv b1).1, (curveB_crv c1).1, ?_, ?_, ?_, by omega, by omega, by omega, by omega⟩, by omega, by omega, by omega, by omega, (curveB_crv a1).2, (curveB_crv b1).2, (curveB_crv c1).2, by omega, by omega⟩
  · exact (wayB_iff.1 a2).imp fun h => by omega
  · exact (wayB_iff.1 b2).imp fun h => by omega
  · exact (wayB_iff.1 c2).imp fun h => by omega
structure Grt (so : Int → Bool) (lo hi r : Int) : Prop where
  ge : lo ≤ r
  le : r ≤ hi
  yes : so r = true
  no : ∀ n, r < n → n ≤ hi → so n = false
def GrtP (so : Int → Bool) (lo hi r : Int) (b : Bool) : Prop := (b = true ∧ Grt so lo hi r) ∨ (b = false ∧ so lo = false ∧ r = 0)
def lvl (n : Int) : Ic := ⟨100, n, 0, 0⟩
theorem lvl_ok {n : Int} (h : 0 ≤ n ∧ n ≤ 400) : IcOk (lvl n) := ⟨by simp [lvl], h, by simp [lvl], by simp [lvl]⟩
end Go.Proofs.YtalcinepeofmcaaGreat.Hu
namespace Go.Proofs.YtalcinepeofmcaaGreat
open Go Go.RowKit Sp
def byts (l : List Int) : List Value := l.map (Value.int .u8)
structure DrawSt (w : World) (ib lb : Nat) (A : Option Addr) (c : Nat) (l : List Int) (k : Nat) : Prop where
  cnt : w.heap[ib]? = some (.cells #[.int .i64 (min k l.length : Nat)] 3 (0, 0))
  lst : w.heap[lb]? = some (.cells #[.slice A l.length c] 0 (0, 0))
  rd : Rd w 1 A l.length (byts l)
theorem DrawSt.keep {w w' : World} {ib lb : Nat} {A : Option Addr} {c : Nat} {l : List Int} {k : Nat} (h : DrawSt w ib lb A c l k) {S : List Nat} (hk : Keep S w w') (h1 : ib ∉ S) (h2 : lb ∉ S) (h3 : 0 < l.length → ∀ b off, A = some ⟨b, off, none⟩ → b ∉ S) : DrawSt w' ib lb A c l k :=
  ⟨(hk.block _ (hL_ h.cnt) h1).trans h.cnt, (hk.block _ (hL_ h.lst) h2).trans h.lst, h.rd.1, fun h0 => (hk.rd h.rd (h3 h0)).2 h0⟩
def Bytes (l : List Int) : Prop := ∀ x ∈ l, 0 ≤ x ∧ x ≤ 255
end Go.Proofs.YtalcinepeofmcaaGreat
namespace Go.Proofs.YtalcinepeofmcaaGreat
open Go Go.RowKit Go.Lib Sp
def NxS (D : Nat) (w : World) (ib lb : Nat) : Prop := ∃ A c l k, DrawSt w ib lb A c l k ∧ Bytes l ∧ l.length ≤ 9223372036854775806 ∧ ib ≠ lb ∧ D ≤ ib ∧ D ≤ lb ∧ (0 < l.length → ∀ b off, A = some ⟨b, off, none⟩ → b < D)
theorem NxS.keep {D : Nat} {w w' : World} {ib lb : Nat} (h : NxS D w ib lb) {S : List Nat} (hk : Keep S w w') (hS : ∀ x ∈ S, D ≤ x ∧ x ≠ ib ∧ x ≠ lb) : NxS D w' ib lb := by
  obtain ⟨A, c, l, k, h1, h2, h3, h4, h5, h6, h7⟩ := h;exact ⟨A, c, l, k, h1.keep hk (fun e => (hS _ e).2.1 rfl) (fun e => (hS _ e).2.2 rfl) (fun h0 b off e hm => by have := h7 h0 b off e; have := (hS _ hm).1; omega), h2, h3, h4, h5, h6, h7⟩
theorem NxS.below {D : Nat} {w w' : World} {ib lb : Nat} (h : NxS D w ib lb) (hb : Below w.heap.size w w') : NxS D w' ib lb := h.keep (S := []) (Keep.of_below hb) (by simp)
theorem NxS.lt {D : Nat} {w : World} {ib lb : Nat} (h : NxS D w ib lb) : ib < w.heap.size ∧ lb < w.heap.size ∧ D ≤ ib ∧ D ≤ lb ∧ ib ≠ lb := by
  obtain ⟨A, c, l, k, h1, h2, h3, h4, h5, h6, h7⟩ := h;exact ⟨hL_ h1.cnt, hL_ h1.lst, h5, h6, h4⟩
end Go.Proofs.YtalcinepeofmcaaGreat
namespace Go.Proofs.YtalcinepeofmcaaGreat
open Go Go.RowKit
section
variable {w : World} {e : TypeId} {A B : Option Addr} {n c m d : Nat} {xs ys : List Value} {fp : List Nat} {P : Program}
theorem setCells_heap (g : Nat) {t : TypeId} : ∀ (ys : List Value) (o : Nat) (w : World) (cur : Array Value), w.heap[g]? = some (.cells cur t (0, 0)) →
    ∃ cur', (w.setCells g o ys).heap[g]? = some (.cells cur' t (0, 0)) ∧ cur'.size = cur.size ∧ (∀ j u, ys[j]? = some u → o + j < cur.size → cur'[o + j]? = some u) ∧ (∀ i, i < o → cur'[i]? = cur[i]?)
  | [], o, w, cur, h => ⟨cur, h, rfl, by simp, fun _ _ => rfl⟩
  | y :: ys, o, w, cur, h => by
    obtain ⟨cur', h1, h2, h3, h4⟩ := setCells_heap g ys (o + 1) (w.setCell ⟨g, o, none⟩ y) (cur.setIfInBounds o y) (hS_ h o y);refine ⟨cur', h1, by simpa using h2, fun j u hu hlt => ?_, fun i hi => ?_⟩
    · cases j with
      | zero =>
        simp only [List.getElem?_cons_zero, Option.some.injEq] at hu;subst hu;rw [Nat.add_zero, h4 o (by omega)];simp at hlt;simp [hlt]
      | succ j =>
        have := h3 j u (by simpa using hu) (by simp; omega)
        rwa [show o + 1 + j = o + (j + 1) from by omega] at this
    · rw [h4 i (by omega), Array.getElem?_setIfInBounds_ne (by omega)]
theorem setCells_keep {S : List Nat} (g : Nat) : ∀ (ys : List Value) (o : Nat) (w0 w : World), Keep S w0 w → (g ∈ S ∨ w0.heap.size ≤ g) → Keep S w0 (w.setCells g o ys)
  | [], _, _, _, h, _ => h
  | y :: ys, o, w0, _, h, hg => setCells_keep g ys (o + 1) w0 _ (h.setCell (p := ⟨g, o, none⟩) hg y) hg
theorem Rd.add_ {A : Option Addr} {n : Nat} {xs : List Value} (h : Rd w 1 A n xs) {ad : Addr} (he : A = some ad) : ∀ j u, xs[j]? = some u → w.cell? (ad.add j) = some u := by
  intro j u hu;have hl : 0 < n := by
    have := (List.getElem?_eq_some_iff.1 hu).1;have := h.1;omega
  obtain ⟨b, off, e1, _, hc⟩ := h.2 hl;rw [he] at e1;injection e1 with e1
  subst e1;have := hc j u hu;by_cases hj : j = 0
  · subst hj; simpa [Addr.add] using this
  · simpa [Addr.add, hj] using this
theorem run_append_As (t ty : TypeId) (i : TypeInfo) (z : Value) (bytes : Nat) (ht : P.underlying t = some (.slice e)) (hi : P.info? e = some i) (hz : i.zero = some z)
    (hsize : i.size = 1) (hby : i.bytes = bytes) (hzs : z.cells.size = 1) (hown : OwnA w e A n c xs fp) (hr : Rd w 1 B m ys) (h1 : ∀ u ∈ ys, u.oneCell' = true)
    (hn : n + m ≤ 1000000000000) (hbytes : bytes ≤ 100) :
    ∃ A' c' w' fp', (Builtin.append_ #[t, t] ty #[.slice A n c, .slice B m d]).run P w = .ok (.slice A' (n + m) c') w' ∧
      OwnA w' e A' (n + m) c' (xs ++ ys) fp' ∧ (∀ g ∈ fp', g ∈ fp ∨ w.heap.size = g) ∧ Keep fp w w' := by
  subst hby;have hym : ys.length = m := by have := hr.1; omega
  rcases Nat.eq_zero_or_pos m with hm | hm
  ·
    subst hm;obtain rfl : ys = [] := List.eq_nil_of_length_eq_zero hym;refine ⟨A, c, w, fp, ?_, by simpa using hown, fun g hg => .inl hg, Keep.refl _ _⟩;have hge := hown.ge;have hfc : (Builtin.firstCells i.size 0 (.slice B 0 d)).run P w = .ok #[] w := by
      cases B with
      | none => simp [Builtin.firstCells]
      | some b => simp [Builtin.firstCells, loadCells, loadCellsFrom]
    cases A with
    | none => simp [Builtin.append_, run_underlying ht, sizeOf, typeInfo, hi, Builtin.lenOf, hge, hfc]
    | some a => simp [Builtin.append_, run_underlying ht, sizeOf, typeInfo, hi, Builtin.lenOf, hge, hfc, storeCells]
  · obtain ⟨b, off, rfl, hb, hc⟩ := hr.2 hm;have hb1 : (n + m) * i.bytes ≤ 140737488355328 := Nat.le_trans (Nat.mul_le_mul hn hbytes) (by decide);have hnews := hr.add_ rfl;have hl : ys.length = m * i.size := by rw [hsize, hym, Nat.mul_one]
    have hmx : n + m ≤ maxLen := by simp only [maxLen]; omega
    have grown : ∀ (old : Nat) (olds : List Value), olds = xs →
        OwnA (w.drew.alloc (.cells (olds.toArray ++ ys.toArray ++ Builtin.zeroCells z.cells (grownCap w (n + m) old e - (n + m))) e)) e (some ⟨w.heap.size, 0, none⟩) (n + m) (grownCap w (n + m) old e) (xs ++ ys) [w.heap.size] := by
      rintro old olds rfl;have hge := grownCap_ge w (n + m) old e;have hcm : grownCap w (n + m) old e ≤ maxLen := grownCap_le_maxLen w (n + m) old e hmx;simp only [maxLen] at hcm;refine ⟨by simp [hown.1, hym], .inr ⟨_, 0, _, rfl, rfl, heap_alloc_new w.drew _, hge, hcm, ?_, ?_⟩⟩
      · simp only [Array.size_append, List.size_toArray, size_zeroCells, hzs, hown.1, hym];omega
      · intro j v hv;have hlt : j < (olds ++ ys).length := (List.getElem?_eq_some_iff.1 hv).1;rw [Nat.zero_add, Array.getElem?_append_left (by simpa using hlt)];simpa using hv
    have hkeep : ∀ o : Obj, Keep fp w (w.drew.alloc o) := fun o => ((Keep.refl fp w).drew).alloc o;rcases hown.2 with ⟨rfl, rfl, rfl, rfl⟩ | ⟨g, og, cur, rfl, rfl, hh, hnc, hcm, hcs, hat⟩
    · have hx : xs = [] := List.eq_nil_of_length_eq_zero hown.1;subst hx;have hrn := run_append_nil (P := P) w t ty e i z ht hi hz ⟨b, off, none⟩ m d ys hl hnews hm (by omega) (by simp at hb1; omega);have hg := grown 0 [] rfl;simp only [Nat.zero_add, List.nil_append, Array.empty_append] at hg ⊢;exact ⟨_, _, _, _, hrn, hg, fun y hy => .inr (List.mem_singleton.1 hy).symm, hkeep _⟩
    · by_cases hroom : n + m ≤ c
      · have hrn := run_append_room_cells (P := P) w t ty e i ht hi g og n c ⟨b, off, none⟩ m d ys hl hnews h1 hroom (by
          intro j hj;rw [hym] at hj;have hlt : og + n * i.size + j < cur.size := by rw [hsize]; omega
          rw [cOH hh, Array.getElem?_eq_getElem hlt];rfl) (fun j hj => fOH hh _)
        rw [hsize, Nat.mul_one] at hrn;obtain ⟨cur', g1, g2, g3, g4⟩ := setCells_heap g ys (og + n) w cur hh;refine ⟨some ⟨g, og, none⟩, c, _, [g], hrn, ⟨by simp [hown.1, hym], .inr ⟨g, og, cur', rfl, rfl, g1, hroom, hcm, by rw [g2]; exact hcs, ?_⟩⟩, fun y hy => .inl hy, setCells_keep g ys _ w w (Keep.refl _ _) (.inl (by simp))⟩;intro j v hv;rw [List.getElem?_append] at hv;split at hv
        · rename_i hj
          rw [g4 (og + j) (by have := hown.1; omega)];exact hat j v hv
        · rename_i hj
          have h5 := hown.1;have h6 := (List.getElem?_eq_some_iff.1 hv).1;have := g3 (j - xs.length) v hv (by omega)
          rwa [show og + n + (j - xs.length) = og + j from by omega] at this
      · have holds : ∀ j v, xs[j]? = some v → w.cell? ((⟨g, og, none⟩ : Addr).add j) = some v := by
          intro j v hv;rw [show (⟨g, og, none⟩ : Addr).add j = ⟨g, og + j, none⟩ from by simp [Addr.add]];exact (cOH hh _).trans (hat j v hv)
        have hrn := run_append_grow (P := P) w t ty e i z ht hi hz ⟨g, og, none⟩ n c xs (by simp [hown.1, hsize]) holds ⟨b, off, none⟩ m d ys hl hnews (by omega) (by omega) (growslice_fits (by omega) hb1);exact ⟨_, _, _, _, hrn, grown c xs rfl, fun y hy => .inr (List.mem_singleton.1 hy).symm, hkeep _⟩
theorem wp_append_As {o : Oper} {a : Act} {K : Act → World → Prop} {Q : Exit → Act → World → Prop} (s x : Operand) (t : TypeId)
    (ho : o.op = .call { callee := .builtin .append, args := #[s, x], argTypes := #[t, t] })
    (i : TypeInfo) (z : Value) (bytes : Nat) (ht : P.underlying t = some (.slice e)) (hi : P.info? e = some i) (hz : i.zero = some z)
    (hsize : i.size = 1) (hby : i.bytes = bytes) (hzs : z.cells.size = 1) (hs : a.eval s = .slice A n c) (hx : a.eval x = .slice B m d)
    (hown : OwnA w e A n c xs fp) (hr : Rd w 1 B m ys) (h1 : ∀ u ∈ ys, u.oneCell' = true)
    (hn : n + m ≤ 1000000000000) (hbytes : bytes ≤ 100)
    (h : ∀ A' c' w' fp', OwnA w' e A' (n + m) c' (xs ++ ys) fp' → (∀ g ∈ fp', g ∈ fp ∨ w.heap.size = g) → Keep fp w w' → K (a.put o.dst (.slice A' (n + m) c')) w') : o.wp P a w K Q := by
  obtain ⟨A', c', w', fp', hrn, h2, h3, h4⟩ := run_append_As (P := P) (d := d) t o.type i z bytes ht hi hz hsize hby hzs hown hr h1 hn hbytes;unfold Oper.wp execOp;simp only [ho, resolve, invoke, builtin, Sem.run_bind, Sem.run_pure, Result.andThen_ok, List.map_toArray, List.map_cons, List.map_nil, hs, hx, hrn];exact h A' c' w' fp' h2 h3 h4
theorem wpList_append_As {ops : Array Oper} {rest : List Oper} {o : Oper} {a : Act} {Q : Exit → Act → World → Prop} (hgd : o.guard = none) (s x : Operand) (t : TypeId)
    (ho : o.op = .call { callee := .builtin .append, args := #[s, x], argTypes := #[t, t] })
    (i : TypeInfo) (z : Value) (bytes : Nat) (ht : P.underlying t = some (.slice e)) (hi : P.info? e = some i) (hz : i.zero = some z)
    (hsize : i.size = 1) (hby : i.bytes = bytes) (hzs : z.cells.size = 1) (hs : a.eval s = .slice A n c) (hx : a.eval x = .slice B m d)
    (hown : OwnA w e A n c xs fp) (hr : Rd w 1 B m ys) (h1 : ∀ u ∈ ys, u.oneCell' = true)
    (hn : n + m ≤ 1000000000000) (hbytes : bytes ≤ 100)
    (h : ∀ A' c' w' fp', OwnA w' e A' (n + m) c' (xs ++ ys) fp' → (∀ g ∈ fp', g ∈ fp ∨ w.heap.size = g) → Keep fp w w' → wpList P ops Q rest (a.put o.dst (.slice A' (n + m) c')) w') : wpList P ops Q (o :: rest) a w :=
  wpList_plain hgd fun _ hK => wp_append_As s x t ho i z bytes ht hi hz hsize hby hzs hs hx hown hr h1 hn hbytes fun A' c' w' fp' h2 h3 h4 => hK _ _ (h A' c' w' fp' h2 h3 h4)
def noughts (n : Nat) : Array Value := (List.replicate n (Value.int .i64 0)).toArray
theorem run_make_ints (t : TypeId) (i : TypeInfo) (ht : P.underlying t = some (.slice e)) (hi : P.info? e = some i) (hz : i.zero = some (.int .i64 0)) (hsize : i.size = 1) (hby : i.bytes = 8) (n : Nat) (hn : n ≤ 1000000) (w : World) :
    (Instr.makeSlice t (.int .i64 (n : Int)) (.int .i64 (n : Int))).run P w = .ok (.slice (some ⟨w.heap.size, 0, none⟩) n n) (w.alloc (.cells (noughts n) e)) := by
  have hr := run_make (P := P) w t e i (.int .i64 0) ht hi hz .i64 .i64 n n (by omega) (Int.le_refl _) (by rw [hby]; omega) (by omega);simp only [Int.toNat_natCast, hsize, Nat.mul_one] at hr;rw [hr]
  congr 3
  apply Array.ext';rw [show (Value.int IntKind.i64 0).cells = #[Value.int .i64 0] from rfl, toList_madeCells_one];simp [noughts]
end
end Go.Proofs.YtalcinepeofmcaaGreat
namespace Go.Proofs.YtalcinepeofmcaaGreat
open Go Go.RowKit
def OwnS (w : World) (e : TypeId) (size : Nat) (A : Option Addr) (n c : Nat) (xs : List Value) (fp : List Nat) : Prop :=
  xs.length = n * size ∧ ((A = none ∧ n = 0 ∧ c = 0 ∧ fp = []) ∨
    ∃ (g : Nat) (cur : Array Value), A = some ⟨g, 0, none⟩ ∧ fp = [g] ∧ w.heap[g]? = some (.cells cur e (0, 0)) ∧ n ≤ c ∧ c ≤ 9223372036854775807 ∧ c * size = cur.size ∧ ∀ (j : Nat) (u : Value), xs[j]? = some u → cur[j]? = some u)
section
variable {w w' : World} {e : TypeId} {size : Nat} {A : Option Addr} {n c : Nat} {xs ys : List Value} {fp : List Nat} {P : Program}
theorem OwnS.nil (w : World) (e : TypeId) (size : Nat) : OwnS w e size none 0 0 [] [] := ⟨by simp, .inl ⟨rfl, rfl, rfl, rfl⟩⟩
theorem OwnS.lt (h : OwnS w e size A n c xs fp) : ∀ g ∈ fp, g < w.heap.size := by
  intro g hg;rcases h.2 with ⟨_, _, _, rfl⟩ | ⟨g', cur, rfl, rfl, hh, _⟩
  · simp at hg
  · obtain rfl : g = g' := by simpa using hg
    exact hL_ hh
theorem OwnS.ge (h : OwnS w e size A n c xs fp) : n ≤ c := by
  rcases h.2 with ⟨_, rfl, rfl, _⟩ | ⟨g', cur, rfl, rfl, hh, h1, _⟩ <;> omega
theorem OwnS.cap (h : OwnS w e size A n c xs fp) : c ≤ 9223372036854775807 := by
  rcases h.2 with ⟨_, _, rfl, _⟩ | ⟨g, cur, _, _, _, _, h, _⟩
  · omega
  · exact h
theorem OwnS.keepS {S : List Nat} (h : OwnS w e size A n c xs fp) (hk : Keep S w w') (hd : ∀ g ∈ fp, g ∉ S) : OwnS w' e size A n c xs fp := by
  refine ⟨h.1, ?_⟩;rcases h.2 with h0 | ⟨g, cur, rfl, rfl, hh, r⟩
  · exact .inl h0
  · exact .inr ⟨g, cur, rfl, rfl, (hk.block g (hL_ hh) (hd g (by simp))).trans hh, r⟩
theorem OwnS.alloc (h : OwnS w e size A n c xs fp) (o : Obj) : OwnS (w.alloc o) e size A n c xs fp := h.keepS ((Keep.refl [] w).alloc o) (by simp)
theorem OwnS.drewN (h : OwnS w e size A n c xs fp) (k : Nat) : OwnS (w.drewN k) e size A n c xs fp := h
theorem OwnS.setCell {p : Addr} (h : OwnS w e size A n c xs fp) (hp : p.block ∉ fp) (u : Value) : OwnS (w.setCell p u) e size A n c xs fp :=
  h.keepS ((Keep.refl [p.block] w).setCell (.inl (by simp)) u) (by simp; rintro g hg rfl; exact hp hg)
theorem OwnS.some_ (h : OwnS w e size A n c xs fp) (hn : 0 < n) : ∃ g, A = some ⟨g, 0, none⟩ ∧ fp = [g] ∧ g < w.heap.size ∧ (∀ j u, xs[j]? = some u → w.cell? ⟨g, j, none⟩ = some u) ∧ (∀ j, w.frozen? ⟨g, j, none⟩ = false) := by
  rcases h.2 with ⟨_, h0, _⟩ | ⟨g, cur, rfl, rfl, hh, h1, h2, h3, h4⟩
  · omega
  · exact ⟨g, rfl, rfl, hL_ hh, fun j u hu => (cOH hh _).trans (h4 j u hu), fun j => fOH hh j⟩
theorem OwnS.rd (h : OwnS w e size A n c xs fp) : Rd w size A n xs := by
  refine ⟨h.1, fun hn => ?_⟩;obtain ⟨g, e, _, hl, hc, _⟩ := h.some_ hn;exact ⟨g, 0, e, hl, fun j u hu => by rw [Nat.zero_add]; exact hc j u hu⟩
theorem OwnS.set_ {g : Nat} (h : OwnS w e size (some ⟨g, 0, none⟩) n c xs fp) (k : Nat) (u : Value) : OwnS (w.setCell ⟨g, k, none⟩ u) e size (some ⟨g, 0, none⟩) n c (xs.set k u) fp := by
  refine ⟨by rw [List.length_set, h.1], .inr ?_⟩;rcases h.2 with ⟨h0, _⟩ | ⟨g', cur, he, rfl, hh, h1, h2, h3, h4⟩
  · cases h0
  · injection he with he
    injection he with e1 _ _
    subst e1;refine ⟨g, cur.setIfInBounds k u, rfl, rfl, hS_ hh _ _, h1, h2, by simpa using h3, fun j v hv => ?_⟩;rw [List.getElem?_set] at hv;by_cases hjk : k = j
    · subst hjk;rw [if_pos rfl] at hv;split at hv
      · rename_i hk
        injection hv with e1
        subst e1;have := (List.getElem?_eq_some_iff.1 (List.getElem?_eq_getElem hk)).1;have hc := h4 k _ (List.getElem?_eq_getElem hk);have hcl := (Array.getElem?_eq_some_iff.1 hc).1;rw [Array.getElem?_setIfInBounds_self_of_lt hcl]
      · cases hv
    · rw [if_neg hjk] at hv;rw [Array.getElem?_setIfInBounds_ne (by omega)];exact h4 j v hv
theorem run_append_S (t ty : TypeId) (i : TypeInfo) (z : Value) (bytes : Nat) (ht : P.underlying t = some (.slice e)) (hi : P.info? e = some i) (hz : i.zero = some z)
    (hsize : i.size = size) (hs0 : 0 < size) (hby : i.bytes = bytes) (hzs : z.cells.size = size) (hown : OwnS w e size A n c xs fp) (ad : Addr) (hys : ys.length = size) (hu : ∀ j v, ys[j]? = some v → w.cell? (ad.add j) = some v) (h1 : ∀ u ∈ ys, u.oneCell' = true)
    (hn : n + 1 ≤ 1000000000000) (hbytes : bytes ≤ 100) :
    ∃ g c' w', (Builtin.append_ #[t, t] ty #[.slice A n c, .slice (some ad) 1 1]).run P w = .ok (.slice (some ⟨g, 0, none⟩) (n + 1) c') w' ∧
      OwnS w' e size (some ⟨g, 0, none⟩) (n + 1) c' (xs ++ ys) [g] ∧ (g ∈ fp ∨ w.heap.size = g) ∧ g < w'.heap.size ∧ Keep fp w w' := by
  subst hby hsize;have hb1 : (n + 1) * i.bytes ≤ 140737488355328 := Nat.le_trans (Nat.mul_le_mul hn hbytes) (by decide);have hl : ys.length = 1 * i.size := by omega
  have hmx : n + 1 ≤ maxLen := by simp only [maxLen]; omega
  have hxl := hown.1;have grown : ∀ (old : Nat) (olds : List Value), olds = xs →
      OwnS (w.drew.alloc (.cells (olds.toArray ++ ys.toArray ++ Builtin.zeroCells z.cells (grownCap w (n + 1) old e - (n + 1))) e)) e i.size (some ⟨w.heap.size, 0, none⟩) (n + 1) (grownCap w (n + 1) old e) (xs ++ ys) [w.heap.size] := by
    rintro old olds rfl;have hge := grownCap_ge w (n + 1) old e;have hcm : grownCap w (n + 1) old e ≤ maxLen := grownCap_le_maxLen w (n + 1) old e hmx;simp only [maxLen] at hcm;refine ⟨by simp [hxl, hys, Nat.add_mul], .inr ⟨_, _, rfl, rfl, heap_alloc_new w.drew _, hge, hcm, ?_, ?_⟩⟩
    · simp only [Array.size_append, List.size_toArray, size_zeroCells, hzs, hxl, hys];generalize grownCap w (n + 1) old e = G at hge ⊢;obtain ⟨d, rfl⟩ : ∃ d, G = n + 1 + d := ⟨G - (n + 1), by omega⟩;rw [show n + 1 + d - (n + 1) = d from by omega];simp only [Nat.add_mul, Nat.one_mul]
    · intro j v hv;have hlt : j < (olds ++ ys).length := (List.getElem?_eq_some_iff.1 hv).1;rw [Array.getElem?_append_left (by simpa using hlt)];simpa using hv
  have hkeep : ∀ o : Obj, Keep fp w (w.drew.alloc o) := fun o => ((Keep.refl fp w).drew).alloc o;rcases hown.2 with ⟨rfl, rfl, rfl, rfl⟩ | ⟨g, cur, rfl, rfl, hh, hnc, hcm, hcs, hat⟩
  · have hx : xs = [] := List.eq_nil_of_length_eq_zero (by omega);subst hx;have hr := run_append_nil (P := P) w t ty e i z ht hi hz ad 1 1 ys hl hu (by omega) (by omega) (by simp at hb1; omega);have hg := grown 0 [] rfl;simp only [Nat.zero_add, List.nil_append, Array.empty_append] at hg ⊢;exact ⟨_, _, _, hr, hg, .inr rfl, by simp, hkeep _⟩
  · by_cases hroom : n + 1 ≤ c
    · have hcn : (n + 1) * i.size ≤ c * i.size := Nat.mul_le_mul_right _ hroom;have hn1 : (n + 1) * i.size = n * i.size + i.size := by rw [Nat.add_mul, Nat.one_mul]
      have hr := run_append_room_cells (P := P) w t ty e i ht hi g 0 n c ad 1 1 ys hl hu h1 hroom (by
        intro j hj;have hlt' : 0 + n * i.size + j < cur.size := by omega
        rw [cOH hh, Array.getElem?_eq_getElem hlt'];rfl) (by intro j hj; exact fOH hh _)
      obtain ⟨cur', g1, g2, g3, g4⟩ := setCells_heap g ys (0 + n * i.size) w cur hh;have hkp := setCells_keep (S := [g]) g ys (0 + n * i.size) w w (Keep.refl _ _) (.inl (by simp));refine ⟨g, c, _, hr, ⟨by simp [hxl, hys, hn1], .inr ⟨g, cur', rfl, rfl, g1, hroom, hcm, by rw [g2]; exact hcs, ?_⟩⟩, .inl (by simp), Nat.lt_of_lt_of_le (hL_ hh) hkp.size, hkp⟩;intro j v hv;rw [List.getElem?_append] at hv;split at hv
      · rename_i hj
        rw [g4 j (by omega)];exact hat j v hv
      · rename_i hj
        have h6 := (List.getElem?_eq_some_iff.1 hv).1;have := g3 (j - xs.length) v hv (by omega)
        rwa [show 0 + n * i.size + (j - xs.length) = j from by omega] at this
    · have holds : ∀ j v, xs[j]? = some v → w.cell? ((⟨g, 0, none⟩ : Addr).add j) = some v := by
        intro j v hv;rw [show (⟨g, 0, none⟩ : Addr).add j = ⟨g, j, none⟩ from by simp [Addr.add]; omega];exact (cOH hh _).trans (hat j v hv)
      have hr := run_append_grow (P := P) w t ty e i z ht hi hz ⟨g, 0, none⟩ n c xs hxl holds ad 1 1 ys hl hu (by omega) (by omega) (growslice_fits (by omega) hb1);exact ⟨_, _, _, hr, grown c xs rfl, .inr rfl, by simp, hkeep _⟩
theorem wp_append_S {o : Oper} {a : Act} {K : Act → World → Prop} {Q : Exit → Act → World → Prop} (s x : Operand) (t : TypeId)
    (ho : o.op = .call { callee := .builtin .append, args := #[s, x], argTypes := #[t, t] })
    (i : TypeInfo) (z : Value) (bytes : Nat) (ht : P.underlying t = some (.slice e)) (hi : P.info? e = some i) (hz : i.zero = some z)
    (hsize : i.size = size) (hs0 : 0 < size) (hby : i.bytes = bytes) (hzs : z.cells.size = size) (hs : a.eval s = .slice A n c) (ad : Addr) (hx : a.eval x = .slice (some ad) 1 1)
    (ys : List Value) (hown : OwnS w e size A n c xs fp) (hys : ys.length = size) (hu : ∀ j v, ys[j]? = some v → w.cell? (ad.add j) = some v) (h1 : ∀ u ∈ ys, u.oneCell' = true)
    (hn : n + 1 ≤ 1000000000000) (hbytes : bytes ≤ 100)
    (h : ∀ g c' w', OwnS w' e size (some ⟨g, 0, none⟩) (n + 1) c' (xs ++ ys) [g] → (g ∈ fp ∨ w.heap.size = g) → g < w'.heap.size → Keep fp w w' → K (a.put o.dst (.slice (some ⟨g, 0, none⟩) (n + 1) c')) w') : o.wp P a w K Q := by
  obtain ⟨g, c', w', hr, h2, h3, h4, h5⟩ := run_append_S (P := P) t o.type i z bytes ht hi hz hsize hs0 hby hzs hown ad hys hu h1 hn hbytes;unfold Oper.wp execOp;simp only [ho, resolve, invoke, builtin, Sem.run_bind, Sem.run_pure, Result.andThen_ok, List.map_toArray, List.map_cons, List.map_nil, hs, hx, hr];exact h g c' w' h2 h3 h4 h5
theorem wpList_append_S {ops : Array Oper} {rest : List Oper} {o : Oper} {a : Act} {Q : Exit → Act → World → Prop} (hgd : o.guard = none) (s x : Operand) (t : TypeId)
    (ho : o.op = .call { callee := .builtin .append, args := #[s, x], argTypes := #[t, t] })
    (i : TypeInfo) (z : Value) (bytes : Nat) (ht : P.underlying t = some (.slice e)) (hi : P.info? e = some i) (hz : i.zero = some z)
    (hsize : i.size = size) (hs0 : 0 < size) (hby : i.bytes = bytes) (hzs : z.cells.size = size) (hs : a.eval s = .slice A n c) (ad : Addr) (hx : a.eval x = .slice (some ad) 1 1)
    (ys : List Value) (hown : OwnS w e size A n c xs fp) (hys : ys.length = size) (hu : ∀ j v, ys[j]? = some v → w.cell? (ad.add j) = some v) (h1 : ∀ u ∈ ys, u.oneCell' = true)
    (hn : n + 1 ≤ 1000000000000) (hbytes : bytes ≤ 100)
    (h : ∀ g c' w', OwnS w' e size (some ⟨g, 0, none⟩) (n + 1) c' (xs ++ ys) [g] → (g ∈ fp ∨ w.heap.size = g) → g < w'.heap.size → Keep fp w w' → wpList P ops Q rest (a.put o.dst (.slice (some ⟨g, 0, none⟩) (n + 1) c')) w') : wpList P ops Q (o :: rest) a w :=
  wpList_plain hgd fun _ hK => wp_append_S s x t ho i z bytes ht hi hz hsize hs0 hby hzs hs ad hx ys hown hys hu h1 hn hbytes fun g c' w' h2 h3 h4 h5 => hK _ _ (h g c' w' h2 h3 h4 h5)
end
end Go.Proofs.YtalcinepeofmcaaGreat
