import Derived.Test.YtalcinepeofmcaaGreatPBp5
import Derived.Test.YtalcinepeofmcaaGreatPBp8
import Derived.Test.YtalcinepeofmcaaGreatPBp4
import Derived.Sort.QuietIn
import Derived.Test.YtalcinepeofmcaaGreatPBp1
import Derived.Test.YtalcinepeofmcaaGreatPBp0
import Derived.Test.YtalcinepeofmcaaGreatProg
import Derived.Deep.DeepCutAuto
import Derived.Test.YtalcinepeofmcaaGreatPBp6
import Derived.BigQuiet
set_option linter.unusedVariables false
set_option linter.unusedSimpArgs false
set_option maxRecDepth 100000
set_option maxHeartbeats 40000000
namespace Go.Proofs.YtalcinepeofmcaaGreat.Pt
open Sp
section
variable {p : Prt} {l : List Vst}
def clashH (l : List Vst) (a : List Plc) (i k : Nat) : Bool :=
  (List.range (vs l i).stay.toNat).any fun t => decide ((pc a k).berth = (pc a i).berth) && (decide ((pc a k).start ≤ (pc a i).start + t) && decide ((pc a i).start + t < (pc a k).start + (vs l k).stay))
theorem clashH_eq (hst : ∀ i, i < l.length → 1 ≤ (vs l i).stay) {a : List Plc} {i k : Nat} (hi : i < l.length) (hk : k < l.length) : clashH l a i k = clash l a i k := by
  have h1 := hst i hi;have h2 := hst k hk;rw [Bool.eq_iff_iff];unfold clashH clash;simp only [List.any_eq_true, List.mem_range, Bool.and_eq_true, decide_eq_true_eq];constructor
  · rintro ⟨t, ht, e, h3, h4⟩;exact ⟨e, by omega, by omega⟩
  · rintro ⟨e, h3, h4⟩;by_cases h5 : (pc a i).start ≤ (pc a k).start
    · exact ⟨((pc a k).start - (pc a i).start).toNat, by omega, e, by omega, by omega⟩
    · exact ⟨0, by omega, e, by omega, by omega⟩
theorem wt_found (hl : l.all vstOk = true) (h0 : 0 ≤ (bestS p l).least) : (bestS p l).least = wt l (bestS p l).found := (found_leaf hl h0).2
theorem less_found (hl : l.all vstOk = true) {a : List Plc} (hlen : a.length = l.length) (hw : verF p l a l.length = 0) : 0 ≤ (bestS p l).least ∧ lessS l (bestS p l).found a = !decide ((bestS p l).found = a) := by
  have W := verF_way.1 hw;obtain ⟨h0, hle⟩ := best_lex hl W hlen;refine ⟨h0, ?_⟩;rw [wt_found hl h0] at hle;by_cases e : (bestS p l).found = a
  · rw [decide_eq_true e, e];unfold lessS;rw [if_neg (by simp), cmpPl_zero.2 rfl]; rfl
  · rw [decide_eq_false e];cases hL : lessS l (bestS p l).found a with
    | true => rfl
    | false => exact absurd (LeP.anti hle (lessS_no hL)) e
def mustH (l : List Vst) (h d : Int) : Nat := l.countP fun v => decide (d ≤ v.dra) && (decide (v.last ≤ h) && decide (h < v.arr + v.stay))
def bertD (p : Prt) (d : Int) : Nat := p.bts.countP fun b => decide (d ≤ b.depth)
def outR (p : Prt) (l : List Vst) (h : Int) : Int := l.foldl (fun o v => if bertD p v.dra < mustH l h v.dra then max o v.dra else o) (-1)
def CrI (l : List Vst) (p : Prt) (C : Int → Int → Prop) (s : Int × Int) : Prop :=
  (s.1 < 0 → s = (-1, 0)) ∧ (0 ≤ s.1 → ∃ a ∈ l, ∃ d ∈ l, s = (a.last, d.dra) ∧ bertD p d.dra < mustH l a.last d.dra) ∧ ∀ h d, C h d → 0 ≤ s.1 ∧ (s.1 < h ∨ (s.1 = h ∧ d ≤ s.2))
theorem crowd1_ok {C : Int → Int → Prop} {a d : Vst} (ha : a ∈ l) (hd : d ∈ l) (h0 : 0 ≤ a.last) {s : Int × Int} (h : CrI l p C s) :
    CrI l p (fun x y => C x y ∨ (x = a.last ∧ y = d.dra ∧ bertD p d.dra < mustH l a.last d.dra)) (crowd1 p l a s d) := by
  obtain ⟨h1, h2, h3⟩ := h;have e : (bertOf p d < mustOf l a d) ↔ bertD p d.dra < mustH l a.last d.dra := Iff.rfl;unfold crowd1;split
  · rename_i hc
    obtain ⟨hb, hc⟩ := hc;refine ⟨fun q => absurd q (by simp only; omega), fun _ => ⟨a, ha, d, hd, rfl, e.1 hb⟩, fun x y hxy => ⟨h0, ?_⟩⟩;simp only;rcases hxy with q | ⟨rfl, rfl, _⟩
    · obtain ⟨k1, k2⟩ := h3 x y q;omega
    · omega
  · rename_i hc
    refine ⟨h1, h2, fun x y hxy => ?_⟩;rcases hxy with q | ⟨rfl, rfl, hb⟩
    · exact h3 x y q
    · have hb := e.2 hb;have hn : ¬ (s.1 < 0 ∨ a.last < s.1 ∨ (a.last = s.1 ∧ s.2 < d.dra)) := fun q => hc ⟨hb, q⟩;omega
theorem CrI.mono {C D : Int → Int → Prop} {s : Int × Int} (h : CrI l p C s) (hD : ∀ x y, D x y → C x y) : CrI l p D s := ⟨h.1, h.2.1, fun x y q => h.2.2 x y (hD x y q)⟩
theorem crowdA_ok {a : Vst} (ha : a ∈ l) (h0 : 0 ≤ a.last) : ∀ (ds : List Vst) {C : Int → Int → Prop} {s : Int × Int}, (∀ d ∈ ds, d ∈ l) → CrI l p C s →
    CrI l p (fun x y => C x y ∨ ∃ d ∈ ds, x = a.last ∧ y = d.dra ∧ bertD p d.dra < mustH l a.last d.dra) (ds.foldl (crowd1 p l a) s)
  | [], C, s, _, h => h.mono fun x y q => by
      rcases q with q | ⟨d, hd, _⟩
      · exact q
      · cases hd
  | d :: ds, C, s, hd, h => by
    rw [List.foldl_cons];refine (crowdA_ok ha h0 ds (fun x hx => hd x (by simp [hx])) (crowd1_ok ha (hd d (by simp)) h0 h)).mono fun x y q => ?_;rcases q with q | ⟨v, hv, q⟩
    · exact .inl (.inl q)
    · rcases List.mem_cons.1 hv with rfl | hv
      · exact .inl (.inr q)
      · exact .inr ⟨v, hv, q⟩
theorem crowdL_ok (h0 : ∀ a ∈ l, 0 ≤ a.last) : ∀ (al : List Vst) {C : Int → Int → Prop} {s : Int × Int}, (∀ a ∈ al, a ∈ l) → CrI l p C s →
    CrI l p (fun x y => C x y ∨ ∃ a ∈ al, ∃ d ∈ l, x = a.last ∧ y = d.dra ∧ bertD p d.dra < mustH l a.last d.dra) (al.foldl (crowdA p l) s)
  | [], C, s, _, h => h.mono fun x y q => by
      rcases q with q | ⟨d, hd, _⟩
      · exact q
      · cases hd
  | a :: al, C, s, ha, h => by
    rw [List.foldl_cons];refine (crowdL_ok h0 al (fun x hx => ha x (by simp [hx])) (crowdA_ok (ha a (by simp)) (h0 a (ha a (by simp))) l (fun _ q => q) h)).mono fun x y q => ?_;rcases q with q | ⟨v, hv, q⟩
    · exact .inl (.inl q)
    · rcases List.mem_cons.1 hv with rfl | hv
      · exact .inl (.inr q)
      · exact .inr ⟨v, hv, q⟩
theorem foldl_max {T : Type} (q : T → Bool) (f : T → Int) : ∀ (L : List T) (o : Int), (∀ v ∈ L, q v = true → f v ≤ L.foldl (fun o v => if q v then max o (f v) else o) o) ∧ o ≤ L.foldl (fun o v => if q v then max o (f v) else o) o ∧
    (L.foldl (fun o v => if q v then max o (f v) else o) o = o ∨ ∃ v ∈ L, q v = true ∧ L.foldl (fun o v => if q v then max o (f v) else o) o = f v)
  | [], o => ⟨by simp, Int.le_refl _, .inl rfl⟩
  | x :: L, o => by
    rw [List.foldl_cons];have h4 : o ≤ (if q x = true then max o (f x) else o) := by split <;> omega
    have h5 : q x = true → f x ≤ (if q x = true then max o (f x) else o) := fun e => by rw [if_pos e]; omega
    have h6 : (if q x = true then max o (f x) else o) = o ∨ (q x = true ∧ (if q x = true then max o (f x) else o) = f x) := by
      by_cases e : q x = true
      · rw [if_pos e];by_cases e2 : f x ≤ o
        · exact .inl (by omega)
        · exact .inr ⟨e, by omega⟩
      · rw [if_neg e]; exact .inl rfl
    generalize (if q x = true then max o (f x) else o) = o' at h4 h5 h6 ⊢;obtain ⟨h1, h2, h3⟩ := foldl_max q f L o';generalize L.foldl (fun o v => if q v then max o (f v) else o) o' = R at h1 h2 h3 ⊢;refine ⟨fun v hv hq => ?_, by omega, ?_⟩
    · rcases List.mem_cons.1 hv with rfl | hv
      · have := h5 hq; omega
      · exact h1 v hv hq
    · rcases h3 with h3 | ⟨v, hv, hq, h3⟩
      · rcases h6 with h6 | ⟨hq, h6⟩
        · exact .inl (by omega)
        · exact .inr ⟨x, by simp, hq, by omega⟩
      · exact .inr ⟨v, by simp [hv], hq, h3⟩
theorem outR_max (h : Int) : (∀ v ∈ l, bertD p v.dra < mustH l h v.dra → v.dra ≤ outR p l h) ∧ -1 ≤ outR p l h ∧ (outR p l h = -1 ∨ ∃ v ∈ l, bertD p v.dra < mustH l h v.dra ∧ outR p l h = v.dra) := by
  have key := foldl_max (fun v : Vst => decide (bertD p v.dra < mustH l h v.dra)) (fun v => v.dra) l (-1);have e : l.foldl (fun o v => if decide (bertD p v.dra < mustH l h v.dra) = true then max o v.dra else o) (-1) = outR p l h := by
    unfold outR
    congr 1
    funext o v
    by_cases q : bertD p v.dra < mustH l h v.dra
    · rw [if_pos q, if_pos (decide_eq_true q)]
    · rw [if_neg q, if_neg (by simpa using q)]
  rw [e] at key;refine ⟨fun v hv q => key.1 v hv (decide_eq_true q), key.2.1, ?_⟩;rcases key.2.2 with q | ⟨v, hv, q, r⟩
  · exact .inl q
  · exact .inr ⟨v, hv, by simpa using q, r⟩
theorem countP_pos_max : ∀ (L : List Vst) (q : Vst → Bool), 0 < L.countP q → ∃ a ∈ L, q a = true ∧ ∀ v ∈ L, q v = true → v.last ≤ a.last
  | [], q, h => by simp at h
  | x :: L, q, h => by
    by_cases h0 : 0 < L.countP q
    · obtain ⟨a, ha, hq, hm⟩ := countP_pos_max L q h0;by_cases hx : q x = true ∧ a.last < x.last
      · refine ⟨x, by simp, hx.1, fun v hv hv2 => ?_⟩;rcases List.mem_cons.1 hv with rfl | hv
        · omega
        · have := hm v hv hv2; omega
      · refine ⟨a, by simp [ha], hq, fun v hv hv2 => ?_⟩;rcases List.mem_cons.1 hv with rfl | hv
        · have : ¬ a.last < v.last := fun e => hx ⟨hv2, e⟩;omega
        · exact hm v hv hv2
    · have hn : L.countP q = 0 := by omega
      rw [List.countP_cons, hn] at h;have hx : q x = true := by
        cases e : q x with
        | true => rfl
        | false => rw [e] at h; simp at h
      refine ⟨x, by simp, hx, fun v hv hv2 => ?_⟩;rcases List.mem_cons.1 hv with rfl | hv
      · omega
      · have := List.countP_eq_zero.1 hn v hv;exact absurd hv2 this
theorem crowd_back {h d : Int} (hc : bertD p d < mustH l h d) : ∃ a ∈ l, a.last ≤ h ∧ bertD p d < mustH l a.last d := by
  obtain ⟨a, ha, hq, hm⟩ := countP_pos_max l (fun v => decide (d ≤ v.dra) && (decide (v.last ≤ h) && decide (h < v.arr + v.stay))) (by unfold mustH at hc; omega);simp only [Bool.and_eq_true, decide_eq_true_eq] at hq;refine ⟨a, ha, hq.2.1, Nat.lt_of_lt_of_le hc ?_⟩;unfold mustH;refine List.countP_mono_left fun v hv hv2 => ?_;have := hm v hv hv2;simp only [Bool.and_eq_true, decide_eq_true_eq] at hv2 ⊢;omega
theorem vs_last (hl : l.all vstOk = true) : ∀ a ∈ l, 0 ≤ a.last ∧ a.last ≤ 2000 ∧ 10 ≤ a.dra := fun a ha => by
  have := List.all_eq_true.1 hl a ha;simp only [vstOk, within, Bool.and_eq_true, decide_eq_true_eq] at this;omega
theorem crowdR_eq (hl : l.all vstOk = true) :
    ((crowdS p l).1 < 0 ∧ ∀ h, outR p l h = -1) ∨ (0 ≤ (crowdS p l).1 ∧ (crowdS p l).1 ≤ 2000 ∧ (crowdS p l).2 = outR p l (crowdS p l).1 ∧ 0 ≤ outR p l (crowdS p l).1 ∧ ∀ h, h < (crowdS p l).1 → outR p l h = -1) := by
  obtain ⟨h1, h2, h3⟩ := crowdL_ok (p := p) (l := l) (fun a ha => (vs_last hl a ha).1) l (C := fun _ _ => False) (s := (-1, 0)) (fun _ q => q) ⟨fun _ => rfl, fun q => absurd q (by simp), fun _ _ q => q.elim⟩;have h1 : (crowdS p l).1 < 0 → crowdS p l = (-1, 0) := h1;have h2 : 0 ≤ (crowdS p l).1 → ∃ a ∈ l, ∃ d ∈ l, crowdS p l = (a.last, d.dra) ∧ bertD p d.dra < mustH l a.last d.dra := h2;have h3 : ∀ a ∈ l, ∀ d ∈ l, bertD p d.dra < mustH l a.last d.dra → 0 ≤ (crowdS p l).1 ∧ ((crowdS p l).1 < a.last ∨ ((crowdS p l).1 = a.last ∧ d.dra ≤ (crowdS p l).2)) := fun a ha d hd q => h3 a.last d.dra (.inr ⟨a, ha, d, hd, rfl, rfl, q⟩);have hno : ∀ h, (∀ v ∈ l, ¬ bertD p v.dra < mustH l h v.dra) → outR p l h = -1 := fun h hn => by
    rcases (outR_max (p := p) (l := l) h).2.2 with q | ⟨v, hv, q, _⟩
    · exact q
    · exact absurd q (hn v hv)
  rcases Int.lt_or_le (crowdS p l).1 0 with hs | hs
  · refine .inl ⟨hs, fun h => hno h fun v hv q => ?_⟩;obtain ⟨a, ha, _, q2⟩ := crowd_back q;have := (h3 a ha v hv q2).1;omega
  · obtain ⟨a, ha, d, hd, e, q⟩ := h2 hs;rw [e] at h3 ⊢;simp only at h3 ⊢;obtain ⟨g1, g2, g3⟩ := outR_max (p := p) (l := l) a.last;have hda := (vs_last hl d hd).2.2;have hge := g1 d hd q;have hout : outR p l a.last = d.dra := by
      rcases g3 with g3 | ⟨v, hv, q2, g3⟩
      · omega
      · rcases (h3 a ha v hv q2).2 with k | ⟨_, k⟩ <;> omega
    refine .inr ⟨(vs_last hl a ha).1, (vs_last hl a ha).2.1, hout.symm, by omega, fun h hh => hno h fun v hv q2 => ?_⟩;obtain ⟨b, hb, hbh, q3⟩ := crowd_back q2;rcases (h3 b hb v hv q3).2 with k | ⟨k, _⟩ <;> omega
end
end Go.Proofs.YtalcinepeofmcaaGreat.Pt
namespace Go.Proofs.YtalcinepeofmcaaGreat
open Go Go.RowKit Sp Pt
abbrev plcV (x : Plc) : Value := .agg #[.int .i64 x.berth, .int .i64 x.start]
def plcOk (x : Plc) : Prop := 0 ≤ x.berth ∧ x.berth ≤ 1000000 ∧ 0 ≤ x.start ∧ x.start ≤ 1000000
theorem cmp1_any (x y : Plc) (w : World) (hx : plcOk x) (hy : plcOk y) :
    Calls Tryz.prog 70 #[plcV x, plcV y] w fun e w' => e = .returned (.int .i64 (cmp1 x y)) ∧ Below w.heap.size w w' := by
  obtain ⟨xb, xs⟩ := x;obtain ⟨yb, ys⟩ := y;obtain ⟨x1, x2, x3, x4⟩ := hx;obtain ⟨y1, y2, y3, y4⟩ := hy;simp only [plcV] at *;obtain ⟨W, hW⟩ : ∃ W, W = (w.alloc (.cells #[.int .i64 xb, .int .i64 xs] 47)).alloc (.cells #[.int .i64 yb, .int .i64 ys] 47) := ⟨_, rfl⟩;obtain ⟨b1, h1⟩ : ∃ b, b = w.heap.size := ⟨_, rfl⟩;obtain ⟨b2, h2⟩ : ∃ b, b = w.heap.size + 1 := ⟨_, rfl⟩;have g1 : W.heap[b1]? = some (.cells #[.int .i64 xb, .int .i64 xs] 47 (0, 0)) := by rw [hW, h1]; exact hA_ (heap_alloc_new _ _) _
  have g2 : W.heap[b2]? = some (.cells #[.int .i64 yb, .int .i64 ys] 47 (0, 0)) := by
    rw [hW, h2];have := heap_alloc_new (w.alloc (.cells #[.int .i64 xb, .int .i64 xs] 47)) (.cells #[.int .i64 yb, .int .i64 ys] 47)
    rwa [World.size_alloc] at this
  have b0 : Below w.heap.size w W := by rw [hW]; exact ((Below.refl _ _).alloc (Nat.le_refl _) _).alloc (by simp) _
  have c0 : W.cell? ⟨b1, 0, none⟩ = some (.int .i64 xb) := (cOH g1 0).trans rfl;have c1 : W.cell? ⟨b1, 1, none⟩ = some (.int .i64 xs) := (cOH g1 1).trans rfl;have c2 : W.cell? ⟨b2, 0, none⟩ = some (.int .i64 yb) := (cOH g2 0).trans rfl;have c3 : W.cell? ⟨b2, 1, none⟩ = some (.int .i64 ys) := (cOH g2 1).trans rfl;have z1 := hL_ g1;have z2 := hL_ g2;have H := Lib.hid b0;clear g1 g2 b0
  go_enter Tryz.func70, Tryz.ntmps70
  go_upto_region 1 with fail
  rw [← hW, ← h2, ← h1];clear hW h1 h2;by_cases e : xb = yb
  · have eb : (xb != yb) = false := by simp [e]
    have HE := Lib.hid e;clear e;go_wp2_with fail
    go_ret;exact ⟨by rw [show cmp1 ⟨xb, xs⟩ ⟨yb, ys⟩ = xs - ys from if_neg (by simpa using HE.out)]; rfl, H.out⟩
  · have eb : (xb != yb) = true := by simp [e]
    have HE := Lib.hid e;clear e;go_wp2_with fail
    go_ret;exact ⟨by rw [show cmp1 ⟨xb, xs⟩ ⟨yb, ys⟩ = xb - yb from if_pos (by simpa using HE.out)]; rfl, H.out⟩
theorem cmpPl_any (A : Option Addr) (ca : Nat) (L : List Plc) (B : Option Addr) (cb : Nat) (M : List Plc) (w : World) (hL : Rd w 2 A L.length (plcs L)) (hM : Rd w 2 B M.length (plcs M)) (oL : ∀ x ∈ L, plcOk x) (oM : ∀ x ∈ M, plcOk x)
    (hl : L.length ≤ 1000) (hm : M.length ≤ 1000) :
    Calls Tryz.prog 69 #[.slice A L.length ca, .slice B M.length cb, .func (.func 70) #[] #[]] w fun e w' => e = .returned (.int .i64 (cmpPl L M)) ∧ Below w.heap.size w w' := by
  have H := Lib.hid (And.intro hL (And.intro hM (And.intro oL oM)));clear hL hM oL oM;obtain ⟨n, hn⟩ : ∃ n, n = L.length := ⟨_, rfl⟩;obtain ⟨m, hme⟩ : ∃ m, m = M.length := ⟨_, rfl⟩;rw [← hn, ← hme];rw [← hn] at hl;rw [← hme] at hm;have HN := Lib.hid (And.intro hn hme);clear hn hme
  go_enter Tryz.func69, Tryz.ntmps69
  go_wp2_with fail
  go_loopg [13] (n) (fun g i wr => ∃ k : Nat, g + k = n ∧ i = .int .i64 k ∧ k ≤ m ∧ cmpPl L M = cmpPl (L.drop k) (M.drop k) ∧ Keep [] w wr)
  case atStart => exact ⟨0, rfl, rfl, Nat.zero_le _, rfl, Keep.refl _ _⟩
  case round =>
    obtain ⟨k, hk, rfl, hkm, hc, hK⟩ := hrel;by_cases hlt : k < n
    · have hkL : k < L.length := by rw [← HN.out.1]; exact hlt
      have hdL : L.drop k = L[k] :: L.drop (k + 1) := List.drop_eq_getElem_cons hkL;obtain ⟨b, off, rfl, hb, hcl⟩ := (hK.rd H.out.1 (by simp)).2 (by omega);obtain ⟨p0, p1⟩ := plcs_get hkL;obtain ⟨x, hx⟩ : ∃ x, x = L[k] := ⟨_, rfl⟩;have ox : plcOk x := H.out.2.2.1 x (by rw [hx]; exact List.getElem_mem _);rw [← hx] at p0 p1 hdL;have d0 := hcl _ _ p0;have d1 : wr.cell? ⟨b, off + k * 2 + 1, none⟩ = _ := hcl _ _ p1;by_cases hltm : k < m
      · have hkM : k < M.length := by rw [← HN.out.2]; exact hltm
        have hdM : M.drop k = M[k] :: M.drop (k + 1) := List.drop_eq_getElem_cons hkM;obtain ⟨b', off', rfl, hb', hcm⟩ := (hK.rd H.out.2.1 (by simp)).2 (by omega);obtain ⟨q0, q1⟩ := plcs_get hkM;obtain ⟨y, hy⟩ : ∃ y, y = M[k] := ⟨_, rfl⟩;have oy : plcOk y := H.out.2.2.2 y (by rw [hy]; exact List.getElem_mem _);rw [← hy] at q0 q1 hdM;have e0 := hcm _ _ q0;have e1 : wr.cell? ⟨b', off' + k * 2 + 1, none⟩ = _ := hcm _ _ q1;have kc := fun wx => cmp1_any x y wx ox oy;have hS : cmpPl L M = if cmp1 x y ≠ 0 then cmp1 x y else cmpPl (L.drop (k + 1)) (M.drop (k + 1)) := by rw [hc, hdL, hdM]; rfl
        obtain ⟨r, hr⟩ : ∃ r, r = cmp1 x y := ⟨_, rfl⟩;simp only [← hr] at kc hS;obtain ⟨xb, xs⟩ := x;obtain ⟨yb, ys⟩ := y;simp only at d0 d1 e0 e1;have HI := Lib.hid (And.intro hS (And.intro hK kc));clear hS hK kc hc hcl hcm p0 p1 q0 q1 ox oy hdL hdM hx hy hr;by_cases hr0 : r = 0
        · subst hr0;go_wp2_with (go_at_call 70; refine (HI.out.2.2 _).mono ?_; rintro e w2 ⟨rfl, b2⟩; have B2 := Lib.hid b2; clear b2)
          go_roundg (gk - 1);case measure => omega
          case rel => exact ⟨k + 1, by omega, by go_num, by omega, by rw [HI.out.1]; rfl, ((HI.out.2.1.alloc _).alloc _).trans (Keep.of_below (S := []) B2.out) (by simp)⟩
        · have hrb : (r != 0) = true := by simp [hr0]
          go_wp2_with (go_at_call 70; refine (HI.out.2.2 _).mono ?_; rintro e w2 ⟨rfl, b2⟩; have B2 := Lib.hid b2; clear b2)
          go_ret;exact ⟨by rw [HI.out.1, if_pos (by assumption)]; rfl, (((HI.out.2.1.alloc _).alloc _).trans (Keep.of_below (S := []) B2.out) (by simp)).below (Nat.le_refl _) (by simp)⟩
      · obtain rfl : k = m := by omega
        have hdM : M.drop k = [] := List.drop_eq_nil_of_le (by rw [← HN.out.2]; omega);have hS : cmpPl L M = 1 := by rw [hc, hdL, hdM]; rfl
        obtain ⟨xb, xs⟩ := x;simp only at d0 d1;have HI := Lib.hid (And.intro hS hK);clear hS hK hc hcl p0 p1 ox hdL hdM hx;go_wp2_with fail
        go_ret;exact ⟨by rw [HI.out.1]; rfl, (HI.out.2.alloc _).below (Nat.le_refl _) (by simp)⟩
    · obtain rfl : k = n := by omega
      have hdL : L.drop k = [] := List.drop_eq_nil_of_le (by rw [← HN.out.1]; omega);by_cases hltm : k < m
      · have hkM : k < M.length := by rw [← HN.out.2]; exact hltm
        have hdM : M.drop k = M[k] :: M.drop (k + 1) := List.drop_eq_getElem_cons hkM;have hS : cmpPl L M = -1 := by rw [hc, hdL, hdM]; rfl
        have HI := Lib.hid (And.intro hS hK);clear hS hK hc hdL hdM;go_wp2_with fail
        go_ret;exact ⟨by rw [HI.out.1]; rfl, HI.out.2.below (Nat.le_refl _) (by simp)⟩
      · have hdM : M.drop k = [] := List.drop_eq_nil_of_le (by rw [← HN.out.2]; omega);have hS : cmpPl L M = 0 := by rw [hc, hdL, hdM]; rfl
        have HI := Lib.hid (And.intro hS hK);clear hS hK hc hdL hdM;go_wp2_with fail
        go_ret;exact ⟨by rw [HI.out.1]; rfl, HI.out.2.below (Nat.le_refl _) (by simp)⟩
theorem asked_bad {p : Prt} {l : List Vst} (hc : checkP p = 0) (hl : l.length ≤ 5) {k : Nat} (hk : k < l.length) (h : vstOk l[k] = false) : askedE p l = 1 := by
  have : l.all vstOk = false := by
    cases q : l.all vstOk with
    | false => rfl
    | true => rw [List.all_eq_true.1 q _ (List.getElem_mem hk)] at h; cases h
  unfold askedE;rw [if_neg (by rw [hc]; decide), if_neg (by omega), if_pos this]
theorem asked_any (D : Nat) (Ac : Option Addr) (cc : Nat) (Ab : Option Addr) (cb : Nat) (p : Prt) (A : Option Addr) (c : Nat) (l : List Vst) (w : World) (PB : PrtB D w Ac cc Ab cb p) (hr : Rd w 4 A l.length (vscs l)) (hD : D ≤ w.heap.size) :
    Calls Tryz.prog 40 #[.agg (prtV Ac cc Ab cb p), .slice A l.length c] w fun e w' => e = .returned (.int .i64 (askedE p l)) ∧ Below w.heap.size w w' := by
  obtain ⟨W, hW⟩ : ∃ W, W = w.alloc (.cells (prtV Ac cc Ab cb p) 25) := ⟨_, rfl⟩;obtain ⟨pb, hpb⟩ : ∃ b, b = w.heap.size := ⟨_, rfl⟩;have hh : W.heap[pb]? = some (.cells (prtV Ac cc Ab cb p) 25 (0, 0)) := by rw [hW, hpb]; exact heap_alloc_new _ _
  have b0 : Below w.heap.size w W := by rw [hW]; exact (Below.refl _ _).alloc (Nat.le_refl _) _
  have c0 : W.cell? ⟨pb, 0, none⟩ = some (.slice Ac p.chs.length cc) := (cOH hh 0).trans rfl;have c1 : W.cell? ⟨pb, 1, none⟩ = some (.slice Ab p.bts.length cb) := (cOH hh 1).trans rfl;have c2 : W.cell? ⟨pb, 2, none⟩ = some (.int .i64 p.tugs) := (cOH hh 2).trans rfl;have zp := hL_ hh;obtain ⟨er, her⟩ : ∃ er, er = checkP p := ⟨_, rfl⟩;have kc := ptCheck_any D Ac cc Ab cb p W (PB.below (b0.mono hD)) (by have := b0.size; omega);rw [← her] at kc;have H := Lib.hid (And.intro b0 (And.intro her (And.intro kc hr)));clear hh b0 kc her hr PB
  go_enter Tryz.func40, Tryz.ntmps40
  go_upto_region 1 with fail
  rw [← hW, ← hpb];clear hW hpb;by_cases h0 : er = 0
  · subst h0;by_cases hl : l.length ≤ 5
    · go_upto_region 4 with (go_at_call 67; refine H.out.2.2.1.mono ?_; rintro e w1 ⟨rfl, b1⟩; have B1 := Lib.hid (And.intro (H.out.1.trans (b1.mono H.out.1.size)) (H.out.2.2.2.below (H.out.1.trans (b1.mono H.out.1.size)))); clear b1)
      clear c0 c1 c2 zp;go_wp2_with fail
      go_loopg [18] (l.length) (fun g i wr => ∃ k : Nat, g + k = l.length ∧ i = .int .i64 k ∧ (l.take k).all vstOk = true ∧ Keep [] w1 wr)
      case atStart => exact ⟨0, rfl, rfl, by simp, Keep.refl _ _⟩
      case round =>
        obtain ⟨k, hk, rfl, hok, hK⟩ := hrel;by_cases hlt : k < l.length
        · obtain ⟨b, off, rfl, hb, hcl⟩ := (hK.rd B1.out.2 (by simp)).2 (by omega);obtain ⟨p0, p1, p2, p3⟩ := vscs_get hlt;obtain ⟨x, hx⟩ : ∃ x, x = l[k] := ⟨_, rfl⟩;rw [← hx] at p0 p1 p2 p3;have d0 := hcl _ _ p0;have d1 : wr.cell? ⟨b, off + k * 4 + 1, none⟩ = _ := hcl _ _ p1;have d2 : wr.cell? ⟨b, off + k * 4 + 2, none⟩ = _ := hcl _ _ p2;have d3 : wr.cell? ⟨b, off + k * 4 + 3, none⟩ = _ := hcl _ _ p3;obtain ⟨ar, la, st, dr⟩ := x;simp only at d0 d1 d2 d3;have hvk : vstOk l[k] = (within ar 0 1000 && (within la ar 2000 && (within st 1 100 && within dr 10 3000))) := by rw [← hx]; rfl
          have hbad := fun h => asked_bad (p := p) H.out.2.1.symm hl hlt h;have HI := Lib.hid (And.intro hvk (And.intro hok (And.intro hK hbad)));clear hvk hok hK hcl p0 p1 p2 p3 hx hbad;cases w1' : within ar 0 1000
          · go_wp2_with (go_at_call 45; refine (pWa _ _ _ _).mono ?_; rintro e w' ⟨rfl, rfl⟩)
            go_ret;exact ⟨by rw [HI.out.2.2.2 (by rw [HI.out.1]; simp_all)]; rfl, B1.out.1.trans ((HI.out.2.2.1.alloc _).below B1.out.1.size (by simp))⟩
          · cases w2' : within la ar 2000
            · go_wp2_with (go_at_call 45; refine (pWa _ _ _ _).mono ?_; rintro e w' ⟨rfl, rfl⟩)
              go_ret;exact ⟨by rw [HI.out.2.2.2 (by rw [HI.out.1]; simp_all)]; rfl, B1.out.1.trans ((HI.out.2.2.1.alloc _).below B1.out.1.size (by simp))⟩
            · cases w3' : within st 1 100
              · go_wp2_with (go_at_call 45; refine (pWa _ _ _ _).mono ?_; rintro e w' ⟨rfl, rfl⟩)
                go_ret;exact ⟨by rw [HI.out.2.2.2 (by rw [HI.out.1]; simp_all)]; rfl, B1.out.1.trans ((HI.out.2.2.1.alloc _).below B1.out.1.size (by simp))⟩
              · cases w4' : within dr 10 3000
                · go_wp2_with (go_at_call 45; refine (pWa _ _ _ _).mono ?_; rintro e w' ⟨rfl, rfl⟩)
                  go_ret;exact ⟨by rw [HI.out.2.2.2 (by rw [HI.out.1]; simp_all)]; rfl, B1.out.1.trans ((HI.out.2.2.1.alloc _).below B1.out.1.size (by simp))⟩
                · go_wp2_with (go_at_call 45; refine (pWa _ _ _ _).mono ?_; rintro e w' ⟨rfl, rfl⟩)
                  go_roundg (gk - 1);case measure => omega
                  case rel => exact ⟨k + 1, by omega, by go_num, all_take_succ hlt HI.out.2.1 (by rw [HI.out.1]; simp_all), HI.out.2.2.1.alloc _⟩
        · obtain rfl : k = l.length := by omega
          rw [List.take_length] at hok;have HL := Lib.hid (And.intro hok hK);clear hok hK;go_wp2_with fail
          go_ret;exact ⟨by rw [show askedE p l = 0 by unfold askedE; rw [if_neg (by rw [← H.out.2.1]; decide), if_neg (by omega), if_neg (by rw [HL.out.1]; decide)]]; rfl, B1.out.1.trans (HL.out.2.below B1.out.1.size (by simp))⟩
    · have hlb : (5 : Int) < (l.length : Int) := by omega
      go_wp2_with (go_at_call 67; refine H.out.2.2.1.mono ?_; rintro e w1 ⟨rfl, b1⟩; have B1 := Lib.hid (H.out.1.trans (b1.mono H.out.1.size)); clear b1)
      go_ret;exact ⟨by rw [show askedE p l = 2 by unfold askedE; rw [if_neg (by rw [← H.out.2.1]; decide), if_pos (by omega)]]; rfl, B1.out⟩
  · have hrb : (er != 0) = true := by simp [h0]
    have HC := Lib.hid h0;clear h0;go_wp2_with (go_at_call 67; refine H.out.2.2.1.mono ?_; rintro e w1 ⟨rfl, b1⟩; have B1 := Lib.hid (H.out.1.trans (b1.mono H.out.1.size)); clear b1)
    go_ret;exact ⟨by rw [show askedE p l = er by unfold askedE; rw [← H.out.2.1, if_pos HC.out]]; rfl, B1.out⟩
end Go.Proofs.YtalcinepeofmcaaGreat

namespace Go.Proofs.YtalcinepeofmcaaGreat
open Go Go.RowKit Sp
theorem bKD {B : Nat} {w w' : World} (h : Below B w w') (n : Nat) : Below B w (w'.drewN n) := ⟨h.os, h.tape, h.output, h.size, h.block⟩
theorem sameInts_any (A : Option Addr) (c : Nat) (l : List Int) (B : Option Addr) (d : Nat) (w : World) (hr : Rd w 1 A l.length (ints l)) (hr2 : Rd w 1 B l.length (ints l)) (hm : l.length ≤ 9223372036854775807) :
    Calls Tryz.prog 51 #[.slice A l.length c, .slice B l.length d] w fun e w' => e = .returned (.bool true) ∧ Below w.heap.size w w' := by
  have HR := Lib.hid (And.intro hr hr2);clear hr hr2
  go_enter Tryz.func51, Tryz.ntmps51
  go_wp2_with fail
  go_loopw [5] (fun i wr => ∃ k : Nat, k ≤ l.length ∧ i = .int .i64 k ∧ Below w.heap.size w wr) (fun i _ => l.length - (intOf i).toNat)
  case atStart => exact ⟨0, Nat.zero_le _, rfl, Below.refl _ _⟩
  case round =>
    obtain ⟨k, hk, rfl, hb⟩ := hrel;by_cases hlt : k < l.length
    · obtain ⟨b1, o1, rfl, z1, k1⟩ := HR.out.1.2 (by omega);obtain ⟨b2, o2, rfl, z2, k2⟩ := HR.out.2.2 (by omega);obtain ⟨x, hx⟩ : ∃ x, x = l.getD k 0 := ⟨_, rfl⟩;have c1 := (hb.cell (p := ⟨b1, o1 + k, none⟩) z1).trans (k1 k _ (iG_ hlt));have c2 := (hb.cell (p := ⟨b2, o2 + k, none⟩) z2).trans (k2 k _ (iG_ hlt));rw [← hx] at c1 c2;have hxx : (x != x) = false := by simp
      have n1 : (0 : Int) ≤ (k : Int) := by omega
      have n2 : (k : Int) < (l.length : Int) := by omega
      have HB := Lib.hid hb;clear k1 k2 hx hb z1 z2;go_upto_region 6 with fail
      go_quiet (fail);go_wp2_with fail
      go_roundw;case measure => simp [intOf]; omega
      case rel => exact ⟨k + 1, by omega, by go_num, bKD HB.out _⟩
    · have HB := Lib.hid hb;clear hb;go_wp2_with fail
      go_ret;exact ⟨rfl, HB.out⟩
theorem infoKI : (Tryz.prog.info? 3).map (fun i => (i.zero, i.size, i.bytes)) = some (some (.int .i64 0), 1, 8) := by kernel_rfl
theorem copyIntsO_any (A : Option Addr) (c : Nat) (l : List Int) (w : World) (hr : Rd w 1 A l.length (ints l)) (hl : l.length ≤ 100000000) :
    Calls Tryz.prog 35 #[.slice A l.length c] w fun e w' => ∃ A1 c1 q, e = .returned (.slice A1 l.length c1) ∧ OwnA w' 3 A1 l.length c1 (ints l) q ∧ (∀ g ∈ q, w.heap.size ≤ g) ∧ Below w.heap.size w w' := by
  obtain ⟨i0, hi, hz0, hz1, hz2⟩ := info_parts infoKI;have HR := Lib.hid hr;clear hr
  go_enter Tryz.func35, Tryz.ntmps35
  go_wp2_with (at_builtin
               refine wpList_append_As rfl (.tmp 4) (.tmp 5) 36 rfl i0 _ 8 Tryz.underlying36 hi hz0 hz1 hz2 rfl (A := none) (n := 0) (c := 0) (B := A) (m := l.length) (d := c) (xs := []) (fp := []) (ys := ints l) (by simp [Act.eval]) (by simp [Act.eval]) (OwnA.nil _ _) HR.out (by intro u hu; obtain ⟨x, _, rfl⟩ := List.mem_map.1 hu; rfl) (by omega) (by omega) ?_;intro A' c' w' fp' h1 h2 h3;have HQ := Lib.hid (And.intro h1 (And.intro h2 h3));clear h1 h2 h3)
  go_ret;have h1 := HQ.out.1;rw [Nat.zero_add, List.nil_append] at h1;refine ⟨A', c', fp', by simp, h1, fun g hg => ?_, HQ.out.2.2.below (Nat.le_refl _) (by simp)⟩;rcases HQ.out.2.1 g hg with h | h
  · simp at h
  · omega
end Go.Proofs.YtalcinepeofmcaaGreat
namespace Go.Proofs.YtalcinepeofmcaaGreat
open Go Go.RowKit Sp Pt
theorem pathOk_take {n : Int} {l : List Int} {j : Nat} : ∀ m, m ≤ j → pathOk n (l.take j) m = pathOk n l m
  | 0, _ => rfl
  | m + 1, h => by
    have e1 : (l.take j).getD m 0 = l.getD m 0 := by simp [List.getD_eq_getElem?_getD, List.getElem?_take, show m < j from by omega]
    have e2 : (l.take j).take m = l.take m := by rw [List.take_take, Nat.min_eq_left (by omega)]
    rw [pathOk, pathOk, e1, e2, pathOk_take m (by omega)]
theorem path_pre {n : Nat} {l : List Int} {j : Nat} (hj : j ≤ l.length) (h : pathOk n l j = true) : j ≤ n := by
  have e : (l.take j).length = j := by rw [List.length_take]; omega
  have h1 : pathOk n (l.take j) (l.take j).length = true := by rw [e, pathOk_take j (Nat.le_refl _)]; exact h
  have := nodup_range_le (path_ok h1).1 (path_ok h1).2;omega
theorem checkR_chs {p : Prt} (h1 : within p.chs.length 1 6 = true) (h2 : within p.bts.length 1 4 = true) (h4 : p.chs.all chOk = false) : checkP p = 100 := by
  cases h3 : within p.tugs 0 20
  · exact checkP_2 h1 h2 h3
  · exact checkP_3 h1 h2 h3 h4
theorem checkR_bts {p : Prt} (h1 : within p.chs.length 1 6 = true) (h2 : within p.bts.length 1 4 = true) (h5 : p.bts.all (btOk p.chs.length) = false) : checkP p = 100 := by
  cases h4 : p.chs.all chOk
  · exact checkR_chs h1 h2 h4
  · cases h3 : within p.tugs 0 20
    · exact checkP_2 h1 h2 h3
    · exact checkP_4 h1 h2 h3 h4 h5
theorem rCheck_any (D : Nat) (Ac : Option Addr) (cc : Nat) (Ab : Option Addr) (cb : Nat) (p : Prt) (w : World) (hp : PrtB D w Ac cc Ab cb p) (hD : D ≤ w.heap.size) :
    Calls Tryz.prog 71 #[.agg (prtV Ac cc Ab cb p)] w fun e w' => e = .returned (.int .i64 (checkP p)) ∧ Below w.heap.size w w' := by
  obtain ⟨iI, hI0, hI1, hI2, hI3⟩ := info_parts infoKI;have b0 : Below w.heap.size w (w.alloc (.cells (prtV Ac cc Ab cb p) 51)) := (Below.refl _ _).alloc (Nat.le_refl _) _;cases h1 : within p.chs.length 1 6
  · go_enter Tryz.func71, Tryz.ntmps71
    go_wp2_with (go_at_call 46; refine (rin9_any _ _ _ _).mono ?_; rintro e w' ⟨rfl, rfl⟩)
    go_ret;exact ⟨by rw [checkP_1 (by rw [h1]; rfl)]; rfl, b0⟩
  cases h2 : within p.bts.length 1 4
  · go_enter Tryz.func71, Tryz.ntmps71
    go_wp2_with (go_at_call 46; refine (rin9_any _ _ _ _).mono ?_; rintro e w' ⟨rfl, rfl⟩)
    go_ret;exact ⟨by rw [checkP_1 (by rw [h1, h2]; rfl)]; rfl, b0⟩
  have hl1 : 1 ≤ p.chs.length ∧ p.chs.length ≤ 6 := by simp [within] at h1; omega
  have hl2 : 1 ≤ p.bts.length ∧ p.bts.length ≤ 4 := by simp [within] at h2; omega
  obtain ⟨bc, oc, rfl, hbc, hcc⟩ := hp.chs.2 (by omega);have HP := Lib.hid hp;have HB := Lib.hid hcc;clear hp hcc
  go_enter Tryz.func71, Tryz.ntmps71
  go_upto_region 3 with (go_at_call 46; refine (rin9_any _ _ _ _).mono ?_; rintro e w' ⟨rfl, rfl⟩)
  obtain ⟨W, hW⟩ : ∃ W, W = w.alloc (.cells (prtV (some ⟨bc, oc, none⟩) cc Ab cb p) 51) := ⟨_, rfl⟩;obtain ⟨bx, hbx⟩ : ∃ bx, bx = w.heap.size := ⟨_, rfl⟩;have fp : W.heap[bx]? = some (.cells (prtV (some ⟨bc, oc, none⟩) cc Ab cb p) 51 (0, 0)) := by rw [hW, hbx]; exact heap_alloc_new _ _
  rw [← hW, ← hbx];have b1 : Below w.heap.size w W := by rw [hW]; exact b0
  have f0 : W.cell? ⟨bx, 0, none⟩ = some (.slice (some ⟨bc, oc, none⟩) p.chs.length cc) := (cOH fp 0).trans rfl;have f1 : W.cell? ⟨bx, 1, none⟩ = some (.slice Ab p.bts.length cb) := (cOH fp 1).trans rfl;have f2 : W.cell? ⟨bx, 2, none⟩ = some (.int .i64 p.tugs) := (cOH fp 2).trans rfl;have hxW := hL_ fp;have HW := Lib.hid (And.intro b1 (And.intro h1 h2));clear hW hbx fp b0 b1 h1 h2;have hbcW : bc < W.heap.size := by have := HW.out.1.size; omega
  go_wp2_with fail
  go_loopg [3] (p.chs.length) (fun g i wr => ∃ k : Nat, g + k = p.chs.length ∧ i = .int .i64 k ∧ (p.chs.take k).all chOk = true ∧ Keep [] W wr)
  case atStart => exact ⟨0, rfl, rfl, by simp, Keep.refl _ _⟩
  case round =>
    obtain ⟨k, hk, rfl, hok, hK⟩ := hrel;have g0 := hK.cell f0 (by simp);have hxr : bx < wr.heap.size := by have := hK.size; omega
    by_cases hlt : k < p.chs.length
    · obtain ⟨s0, s1, s2⟩ := chcs_get hlt;obtain ⟨x, hx⟩ : ∃ x, x = p.chs[k] := ⟨_, rfl⟩;rw [← hx] at s0 s1 s2;have bB : Below w.heap.size w wr := HW.out.1.trans (hK.below HW.out.1.size (by simp));have cw : ∀ {o : Nat} {u : Value}, w.cell? ⟨bc, o, none⟩ = some u → wr.cell? ⟨bc, o, none⟩ = some u := fun h => (bB.cell (p := ⟨bc, _, none⟩) (show bc < w.heap.size by omega)).trans h;have d0 := cw (HB.out _ _ s0);have d1 : wr.cell? ⟨bc, oc + k * 3 + 1, none⟩ = some (.int .i64 x.frost) := cw (HB.out _ _ s1);have d2 : wr.cell? ⟨bc, oc + k * 3 + 2, none⟩ = some (.int .i64 x.clear) := cw (HB.out _ _ s2);have hbl : bc < wr.heap.size := by have := hK.size; omega
      have HI := Lib.hid (And.intro hok (And.intro hK (And.intro bB hx)));have n2 : (k : Int) < (p.chs.length : Int) := by omega
      clear s0 s1 s2 hok hK hx bB cw f0 f1 f2;go_wp2_with (go_at_call 46; refine (rin9_any _ _ _ _).mono ?_; rintro e w' ⟨rfl, rfl⟩)
      any_goals (go_ret; refine ⟨?_, HI.out.2.2.1.alloc HI.out.2.2.1.size _⟩; rw [checkR_chs HW.out.2.1 HW.out.2.2 (all_not hlt (by rw [← HI.out.2.2.2]; simp_all [chOk]))]; rfl)
      go_roundg (gk - 1);case measure => omega
      case rel => exact ⟨k + 1, by omega, by go_num, all_take_succ hlt HI.out.1 (by rw [← HI.out.2.2.2]; simp_all [chOk]), HI.out.2.1.alloc _⟩
    · obtain rfl : k = p.chs.length := by omega
      have hal : p.chs.all chOk = true := by rwa [List.take_length] at hok
      have HC := Lib.hid (And.intro hal hK);have f1' := hK.cell f1 (by simp);have f2' := hK.cell f2 (by simp);clear hal hok hK f1 hk f0 f2;obtain ⟨w1, hw1⟩ : ∃ w1, w1 = wr := ⟨_, rfl⟩;subst hw1;go_wp2_with fail
      go_loopg [5] (p.bts.length) (fun g i wq => ∃ k : Nat, g + k = p.bts.length ∧ i = .int .i64 k ∧ (p.bts.take k).all (btOk p.chs.length) = true ∧ Keep [] w1 wq)
      case atStart => exact ⟨0, rfl, rfl, by simp, Keep.refl _ _⟩
      case round =>
        obtain ⟨w2, hw2⟩ : ∃ w2, w2 = wr := ⟨_, rfl⟩;subst hw2;obtain ⟨k, hk, rfl, hok, hK⟩ := hrel;have g1 := hK.cell f1' (by simp);have g0' := hK.cell g0 (by simp);have g2 := hK.cell f2' (by simp);have hxq : bx < w2.heap.size := by have := hK.size; omega
        by_cases hlt : k < p.bts.length
        · obtain ⟨b, off, Ak, ck, hAb, hbD, d1, d2, d3⟩ := HP.out.bts k hlt;obtain ⟨x, hx⟩ : ∃ x, x = p.bts[k] := ⟨_, rfl⟩;rw [← hx] at d1 d2 d3;obtain ⟨dp, pth⟩ := x;simp only at d1 d2 d3;have bB : Below w.heap.size w w2 := (HW.out.1.trans (HC.out.2.below HW.out.1.size (by simp))).trans (hK.below (by have := HW.out.1.size; have := HC.out.2.size; omega) (by simp));have d1' := (bB.cell (p := ⟨b, off + k * 2, none⟩) (show b < w.heap.size by omega)).trans d1;have d2' := (bB.cell (p := ⟨b, off + k * 2 + 1, none⟩) (show b < w.heap.size by omega)).trans d2;have d3' : PathB w.heap.size w2 Ak ck pth := (d3.mono hD).below bB;have hbl : b < w2.heap.size := by have := bB.size; omega
          have hkb : btOk p.chs.length p.bts[k] = (within dp 10 3000 && (!decide (pth.length = 0) && pathOk p.chs.length pth pth.length)) := by rw [← hx]; rfl
          have hbad : btOk p.chs.length p.bts[k] = false → checkP p = 100 := fun h => checkR_bts HW.out.2.1 HW.out.2.2 (all_not hlt h);have hpc := d3'.2.1;have hpm := d3'.2.2.1;have HI := Lib.hid (And.intro hok (And.intro hK (And.intro bB (And.intro hkb (And.intro hbad d3')))));have n2 : (k : Int) < (p.bts.length : Int) := by omega
          subst hAb;clear hok hK hx bB d1 d2 d3 d3' hkb hbad f1' f2' g0 g2;cases hz : within dp 10 3000
          · go_wp2_with (go_at_call 46; refine (rin9_any _ _ _ _).mono ?_; rintro e w' ⟨rfl, rfl⟩)
            go_ret;exact ⟨by rw [HI.out.2.2.2.2.1 (by rw [HI.out.2.2.2.1, hz]; rfl)]; rfl, HI.out.2.2.1.alloc HI.out.2.2.1.size _⟩
          by_cases hn : pth.length = 0
          · rw [hn] at d2' hpc;go_wp2_with (go_at_call 46; refine (rin9_any _ _ _ _).mono ?_; rintro e w' ⟨rfl, rfl⟩)
            go_ret;exact ⟨by rw [HI.out.2.2.2.2.1 (by rw [HI.out.2.2.2.1, hz, hn]; rfl)]; rfl, HI.out.2.2.1.alloc HI.out.2.2.1.size _⟩
          have hn0 : ((pth.length : Int) == 0) = false := beq_eq_false_iff_ne.2 (by omega);obtain ⟨gb, rfl⟩ : ∃ gb, gb = gk := ⟨_, rfl⟩;go_upto_region 15 with (go_at_call 46; refine (rin9_any _ _ _ _).mono ?_; rintro e w' ⟨rfl, rfl⟩)
          obtain ⟨W3, hW3⟩ : ∃ W, W = w2.alloc (.cells #[.int .i64 dp, .slice Ak pth.length ck] 103) := ⟨_, rfl⟩;obtain ⟨bq, hbq⟩ : ∃ bq, bq = w2.heap.size := ⟨_, rfl⟩;have b3 : Below w2.heap.size w2 W3 := by rw [hW3]; exact (Below.refl _ _).alloc (Nat.le_refl _) _
          have q1 : W3.cell? ⟨bq, 1, none⟩ = some (.slice Ak pth.length ck) := by rw [hW3, hbq]; simp [World.cell?_alloc_new]
          have hqw : bq < W3.heap.size := by rw [hW3, hbq]; simp
          have e0 := (b3.cell (p := ⟨bx, 0, none⟩) (show bx < w2.heap.size from hxq)).trans g0';have e1 := (b3.cell (p := ⟨bx, 1, none⟩) (show bx < w2.heap.size from hxq)).trans g1;have p3 : PathB w.heap.size W3 Ak ck pth := HI.out.2.2.2.2.2.below (b3.mono HI.out.2.2.1.size);obtain ⟨bp, op, hAk, hbp, hpc3⟩ := p3.1.2 (by omega);have bwp : bp < W3.heap.size := by have := b3.size; have := HI.out.2.2.1.size; omega
          have hpl6 := p3.2.2.1;rw [← hW3, ← hbq];have H3 := Lib.hid (And.intro b3 (And.intro p3 (And.intro hz (And.intro hpc3 (show ¬ pth.length = 0 from hn)))));have hxq3 : bx < W3.heap.size := by have := b3.size; omega
          subst hAk;clear hW3 hbq b3 g0' g1 d1' d2' p3 hz hpc3 hpc;have hnn : 0 < pth.length := by omega
          clear hn hn0;go_wp2_with fail
          go_loopg [7, 8] (pth.length) (fun g o i wi => ∃ (j : Nat) (Ao : Option Addr) (co : Nat) (q : List Nat), g + j = pth.length ∧ i = .int .i64 j ∧ o = .slice Ao j co ∧ OwnA wi 3 Ao j co (ints (pth.take j)) q ∧ (∀ g ∈ q, W3.heap.size ≤ g) ∧ pathOk p.chs.length pth j = true ∧ j ≤ 6 ∧ Keep [] W3 wi)
          case atStart => exact ⟨0, none, 0, [], rfl, rfl, rfl, by simpa [ints] using OwnA.nil _ _, by simp, rfl, by omega, Keep.refl _ _⟩
          case round =>
            obtain ⟨j, Ao, co, q, hj, rfl, rfl, hO, hq, hjk, hj6, hK3⟩ := hrel;have k1 := hK3.cell q1 (by simp);have k0 := hK3.cell e0 (by simp);have zq : bq < wr.heap.size := by have := hK3.size; omega
            have zx : bx < wr.heap.size := by have := hK3.size; omega
            by_cases hlj : j < pth.length
            · obtain ⟨n, hn⟩ : ∃ n, n = pth.getD j 0 := ⟨_, rfl⟩;have c0 : wr.cell? ⟨bp, op + j, none⟩ = some (.int .i64 n) := by rw [hn]; exact hK3.cell (H3.out.2.2.2.1 j _ (iG_ hlj)) (by simp)
              have zbp : bp < wr.heap.size := by have := hK3.size; omega
              have hS : pathOk p.chs.length pth (j + 1) = (pathOk p.chs.length pth j && (within n 0 ((p.chs.length : Int) - 1) && !(pth.take j).contains n)) := by rw [hn]; rfl
              have hN : (within n 0 ((p.chs.length : Int) - 1) && !(pth.take j).contains n) = false → pathOk p.chs.length pth pth.length = false := fun h => pathOk_no hlj (by rw [← hn]; exact h);have htk : (pth.take j).length = j := by rw [List.length_take]; omega
              have hct : ∀ m, Calls Tryz.prog 94 #[.slice Ao j co, .int .i64 n] (wr.drewN m) fun e w' => e = .returned (.bool ((pth.take j).contains n)) ∧ w' = wr.drewN m := fun m => by
                have h := rhas_any Ao co (pth.take j) n (wr.drewN m) (by rw [htk]; exact (hO.drewN m).rd) (by omega);rw [htk] at h;exact h.mono fun e w' ⟨h1, h2⟩ => ⟨h1, h2.symm⟩
              have hle : within n 0 ((p.chs.length : Int) - 1) = true → (pth.take j).contains n = false → j + 1 ≤ 6 := fun h h' => by
                have h7 : pathOk p.chs.length pth (j + 1) = true := by rw [hS, hjk, h, h']; rfl
                have := path_pre (by omega) h7;omega
              obtain ⟨z, hzz⟩ : ∃ z, z = (pth.take j).contains n := ⟨_, rfl⟩;rw [← hzz] at hct hS hN hle;have n3 : (j : Int) < (pth.length : Int) := by omega
              have HJ := Lib.hid (And.intro hct (And.intro hS (And.intro hN (And.intro hjk (And.intro hn (And.intro hO (And.intro hq (And.intro hK3 hle))))))));have hin : ∀ m, Calls Tryz.prog 46 #[.int .i64 n, .int .i64 0, .int .i64 ((p.chs.length : Int) - 1)] (wr.drewN m) fun e w' => e = .returned (.bool (within n 0 ((p.chs.length : Int) - 1))) ∧ w' = wr.drewN m := fun m => (rin9_any _ _ _ _).mono fun e w' ⟨h1, h2⟩ => ⟨h1, h2.symm⟩;clear hct hS hN hjk hn hzz hO hq hK3 hle;cases hw : within n 0 ((p.chs.length : Int) - 1)
              · rw [hw] at hin;have HD := Lib.hid hin;clear hin;go_upto_region 19 with fail
                go_quiet ((go_at_call 46; with_reducible exact Calls.quiet_of_same (HD.out _)));go_wp2_with fail
                go_ret;refine ⟨?_, (HI.out.2.2.1.trans (H3.out.1.mono HI.out.2.2.1.size)).trans ((HJ.out.2.2.2.2.2.2.2.1.drewN _).below (by have := HI.out.2.2.1.size; have := H3.out.1.size; omega) (by simp))⟩;rw [HI.out.2.2.2.2.1 (by rw [HI.out.2.2.2.1, H3.out.2.2.1, HJ.out.2.2.1 (by rw [hw]; rfl)]; simp)]; rfl
              · rw [hw] at hin;have HD := Lib.hid hin;clear hin;cases z
                · go_upto_region 19 with fail
                  go_quiet ((first | (go_at_call 46; with_reducible exact Calls.quiet_of_same (HD.out _)) | (go_at_call 94; with_reducible exact Calls.quiet_of_same (HJ.out.1 _))));have hle := HJ.out.2.2.2.2.2.2.2.2 hw rfl
                  go_wp2_with (at_builtin
                               refine wpList_append_A rfl (.tmp 98) (.tmp 104) 36 rfl iI _ 8 Tryz.underlying36 hI0 hI1 hI2 hI3 rfl (A := Ao) (n := j) (c := co) (xs := ints (pth.take j)) (fp := q) (by simp [Act.eval]) _ (by simp [Act.eval]) (.int .i64 n) (((HJ.out.2.2.2.2.2.1.drewN _).alloc _)) (cell_new_one _ _ _) rfl (by omega) (by omega) ?_;intro g off' c' w4 e1 e2 e3 e4;have HQ := Lib.hid (And.intro e1 (And.intro e2 e4));clear e1 e2 e3 e4)
                  go_roundg (gk - 1);case measure => omega
                  case rel =>
                    obtain ⟨h1, h2, h3, h4, h5, h6, h7, h8, h9⟩ := HJ.out;obtain ⟨e1, e2, e4⟩ := HQ.out;refine ⟨j + 1, some ⟨g, off', none⟩, c', [g], by omega, by go_num, by go_num, ?_, ?_, by rw [h2, h4, hw]; rfl, hle, ((h8.drewN _).alloc _).trans e4 (fun y hy => .inr (h7 y hy))⟩
                    · rw [List.take_succ_eq_append_getElem hlj];have : pth[j] = n := by rw [h5]; simp [hlj]
                      rw [this];simpa [ints] using e1
                    · intro y hy;have e : y = g := by simpa using hy
                      subst e;rcases e2 with e | e
                      · exact h7 y e
                      · have := h8.size; simp at e; omega
                · go_upto_region 19 with fail
                  go_quiet ((first | (go_at_call 46; with_reducible exact Calls.quiet_of_same (HD.out _)) | (go_at_call 94; with_reducible exact Calls.quiet_of_same (HJ.out.1 _))));go_wp2_with fail
                  go_ret;refine ⟨?_, (HI.out.2.2.1.trans (H3.out.1.mono HI.out.2.2.1.size)).trans ((HJ.out.2.2.2.2.2.2.2.1.drewN _).below (by have := HI.out.2.2.1.size; have := H3.out.1.size; omega) (by simp))⟩;rw [HI.out.2.2.2.2.1 (by rw [HI.out.2.2.2.1, H3.out.2.2.1, HJ.out.2.2.1 (by rw [hw]; rfl)]; simp)]; rfl
            · obtain rfl : j = pth.length := by omega
              have HL := Lib.hid (And.intro hjk hK3);clear hjk hK3 hO hq;go_wp2_with fail
              go_roundg (gb - 1);case measure => omega
              case rel =>
                refine ⟨k + 1, by omega, by go_num, all_take_succ hlt HI.out.1 (by rw [HI.out.2.2.2.1, H3.out.2.2.1, HL.out.1]; simp; have := H3.out.2.2.2.2; intro h; rw [h] at this; simp at this), ?_⟩;exact (HI.out.2.1.trans (Keep.of_below (S := []) H3.out.1) (by simp)).trans HL.out.2 (by simp)
        · obtain rfl : k = p.bts.length := by omega
          have hal : p.bts.all (btOk p.chs.length) = true := by rwa [List.take_length] at hok
          have bB : Below w.heap.size w w2 := (HW.out.1.trans (HC.out.2.below HW.out.1.size (by simp))).trans (hK.below (by have := HW.out.1.size; have := HC.out.2.size; omega) (by simp));have HE := Lib.hid (And.intro hal bB);clear hal hok hK bB;cases ht : within p.tugs 0 20
          · go_wp2_with (go_at_call 46; refine (rin9_any _ _ _ _).mono ?_; rintro e w' ⟨rfl, rfl⟩)
            go_ret;exact ⟨by rw [checkP_2 HW.out.2.1 HW.out.2.2 ht]; rfl, HE.out.2⟩
          · go_wp2_with (go_at_call 46; refine (rin9_any _ _ _ _).mono ?_; rintro e w' ⟨rfl, rfl⟩)
            go_ret;exact ⟨by rw [checkP_5 HW.out.2.1 HW.out.2.2 ht HC.out.1 HE.out.1]; rfl, HE.out.2⟩
theorem rasked9_any (D : Nat) (Ac : Option Addr) (cc : Nat) (Ab : Option Addr) (cb : Nat) (p : Prt) (A : Option Addr) (c : Nat) (l : List Vst) (w : World) (PB : PrtB D w Ac cc Ab cb p) (hr : Rd w 4 A l.length (vscs l)) (hD : D ≤ w.heap.size) :
    Calls Tryz.prog 42 #[.agg (prtV Ac cc Ab cb p), .slice A l.length c] w fun e w' => e = .returned (.int .i64 (askedE p l)) ∧ Below w.heap.size w w' := by
  obtain ⟨W, hW⟩ : ∃ W, W = w.alloc (.cells (prtV Ac cc Ab cb p) 51) := ⟨_, rfl⟩;obtain ⟨pb, hpb⟩ : ∃ b, b = w.heap.size := ⟨_, rfl⟩;have hh : W.heap[pb]? = some (.cells (prtV Ac cc Ab cb p) 51 (0, 0)) := by rw [hW, hpb]; exact heap_alloc_new _ _
  have b0 : Below w.heap.size w W := by rw [hW]; exact (Below.refl _ _).alloc (Nat.le_refl _) _
  have c0 : W.cell? ⟨pb, 0, none⟩ = some (.slice Ac p.chs.length cc) := (cOH hh 0).trans rfl;have c1 : W.cell? ⟨pb, 1, none⟩ = some (.slice Ab p.bts.length cb) := (cOH hh 1).trans rfl;have c2 : W.cell? ⟨pb, 2, none⟩ = some (.int .i64 p.tugs) := (cOH hh 2).trans rfl;have zp := hL_ hh;obtain ⟨er, her⟩ : ∃ er, er = checkP p := ⟨_, rfl⟩;have kc := rCheck_any D Ac cc Ab cb p W (PB.below (b0.mono hD)) (by have := b0.size; omega);rw [← her] at kc;have H := Lib.hid (And.intro b0 (And.intro her (And.intro kc hr)));clear hh b0 kc her hr PB
  go_enter Tryz.func42, Tryz.ntmps42
  go_upto_region 1 with fail
  rw [← hW, ← hpb];clear hW hpb;by_cases h0 : er = 0
  · subst h0;by_cases hl : l.length ≤ 5
    · go_upto_region 4 with (go_at_call 71; refine H.out.2.2.1.mono ?_; rintro e w1 ⟨rfl, b1⟩; have B1 := Lib.hid (And.intro (H.out.1.trans (b1.mono H.out.1.size)) (H.out.2.2.2.below (H.out.1.trans (b1.mono H.out.1.size)))); clear b1)
      clear c0 c1 c2 zp;go_wp2_with fail
      go_loopg [6] (l.length) (fun g i wr => ∃ k : Nat, g + k = l.length ∧ i = .int .i64 k ∧ (l.take k).all vstOk = true ∧ Keep [] w1 wr)
      case atStart => exact ⟨0, rfl, rfl, by simp, Keep.refl _ _⟩
      case round =>
        obtain ⟨k, hk, rfl, hok, hK⟩ := hrel;by_cases hlt : k < l.length
        · obtain ⟨b, off, rfl, hb, hcl⟩ := (hK.rd B1.out.2 (by simp)).2 (by omega);obtain ⟨p0, p1, p2, p3⟩ := vscs_get hlt;obtain ⟨x, hx⟩ : ∃ x, x = l[k] := ⟨_, rfl⟩;rw [← hx] at p0 p1 p2 p3;have d0 := hcl _ _ p0;have d1 : wr.cell? ⟨b, off + k * 4 + 1, none⟩ = _ := hcl _ _ p1;have d2 : wr.cell? ⟨b, off + k * 4 + 2, none⟩ = _ := hcl _ _ p2;have d3 : wr.cell? ⟨b, off + k * 4 + 3, none⟩ = _ := hcl _ _ p3;obtain ⟨ar, la, st, dr⟩ := x;simp only at d0 d1 d2 d3;have hvk : vstOk l[k] = (within ar 0 1000 && (within la ar 2000 && (within st 1 100 && within dr 10 3000))) := by rw [← hx]; rfl
          have hbad := fun h => asked_bad (p := p) H.out.2.1.symm hl hlt h;have HI := Lib.hid (And.intro hvk (And.intro hok (And.intro hK hbad)));clear hvk hok hK hcl p0 p1 p2 p3 hx hbad;cases w1' : within ar 0 1000
          · go_wp2_with (go_at_call 46; refine (rin9_any _ _ _ _).mono ?_; rintro e w' ⟨rfl, rfl⟩)
            go_ret;exact ⟨by rw [HI.out.2.2.2 (by rw [HI.out.1]; simp_all)]; rfl, B1.out.1.trans ((HI.out.2.2.1.alloc _).below B1.out.1.size (by simp))⟩
          · have e1 := Pt.within_iff.1 w1';cases w2' : within la ar 2000
            · cases w5' : within la 0 2000
              · go_wp2_with (go_at_call 46; refine (rin9_any _ _ _ _).mono ?_; rintro e w' ⟨rfl, rfl⟩)
                go_ret;exact ⟨by rw [HI.out.2.2.2 (by rw [HI.out.1]; simp_all)]; rfl, B1.out.1.trans ((HI.out.2.2.1.alloc _).below B1.out.1.size (by simp))⟩
              · have w6' : la < ar := by
                  have e5 := Pt.within_iff.1 w5';by_cases h : la < ar
                  · exact h
                  · rw [Pt.within_iff.2 (by omega)] at w2'; cases w2'
                go_wp2_with (go_at_call 46; refine (rin9_any _ _ _ _).mono ?_; rintro e w' ⟨rfl, rfl⟩)
                go_ret;exact ⟨by rw [HI.out.2.2.2 (by rw [HI.out.1]; simp_all)]; rfl, B1.out.1.trans ((HI.out.2.2.1.alloc _).below B1.out.1.size (by simp))⟩
            · have e2 := Pt.within_iff.1 w2';have w5' : within la 0 2000 = true := Pt.within_iff.2 (by omega);have w6' : ¬ la < ar := by omega
              cases w3' : within st 1 100
              · go_wp2_with (go_at_call 46; refine (rin9_any _ _ _ _).mono ?_; rintro e w' ⟨rfl, rfl⟩)
                go_ret;exact ⟨by rw [HI.out.2.2.2 (by rw [HI.out.1]; simp_all)]; rfl, B1.out.1.trans ((HI.out.2.2.1.alloc _).below B1.out.1.size (by simp))⟩
              · cases w4' : within dr 10 3000
                · go_wp2_with (go_at_call 46; refine (rin9_any _ _ _ _).mono ?_; rintro e w' ⟨rfl, rfl⟩)
                  go_ret;exact ⟨by rw [HI.out.2.2.2 (by rw [HI.out.1]; simp_all)]; rfl, B1.out.1.trans ((HI.out.2.2.1.alloc _).below B1.out.1.size (by simp))⟩
                · go_wp2_with (go_at_call 46; refine (rin9_any _ _ _ _).mono ?_; rintro e w' ⟨rfl, rfl⟩)
                  go_roundg (gk - 1);case measure => omega
                  case rel => exact ⟨k + 1, by omega, by go_num, all_take_succ hlt HI.out.2.1 (by rw [HI.out.1]; simp_all), HI.out.2.2.1.alloc _⟩
        · obtain rfl : k = l.length := by omega
          rw [List.take_length] at hok;have HL := Lib.hid (And.intro hok hK);clear hok hK;go_wp2_with fail
          go_ret;exact ⟨by rw [show askedE p l = 0 by unfold askedE; rw [if_neg (by rw [← H.out.2.1]; decide), if_neg (by omega), if_neg (by rw [HL.out.1]; decide)]]; rfl, B1.out.1.trans (HL.out.2.below B1.out.1.size (by simp))⟩
    · have hlb : (5 : Int) < (l.length : Int) := by omega
      go_wp2_with (go_at_call 71; refine H.out.2.2.1.mono ?_; rintro e w1 ⟨rfl, b1⟩; have B1 := Lib.hid (H.out.1.trans (b1.mono H.out.1.size)); clear b1)
      go_ret;exact ⟨by rw [show askedE p l = 2 by unfold askedE; rw [if_neg (by rw [← H.out.2.1]; decide), if_pos (by omega)]]; rfl, B1.out⟩
  · have hrb : (er != 0) = true := by simp [h0]
    have HC := Lib.hid h0;clear h0;go_wp2_with (go_at_call 71; refine H.out.2.2.1.mono ?_; rintro e w1 ⟨rfl, b1⟩; have B1 := Lib.hid (H.out.1.trans (b1.mono H.out.1.size)); clear b1)
    go_ret;exact ⟨by rw [show askedE p l = er by unfold askedE; rw [← H.out.2.1, if_pos HC.out]]; rfl, B1.out⟩
theorem wsum_bd {f : Nat → Int} {M : Int} : ∀ n, (∀ i, i < n → -M ≤ f i ∧ f i ≤ M) → -(n * M) ≤ wsum f n ∧ wsum f n ≤ n * M
  | 0, _ => by simp [wsum]
  | n + 1, h => by
    have h1 := wsum_bd n fun i hi => h i (by omega);have h2 := h n (by omega);have e : ((n + 1 : Nat) : Int) * M = n * M + M := by rw [Int.natCast_add, Int.add_mul]; simp
    rw [e, wsum];omega
def PlSm (l : List Vst) (a : List Plc) : Prop := a.length = l.length ∧ ∀ i, i < l.length → (-100000 ≤ (pc a i).start ∧ (pc a i).start ≤ 100000) ∧ (0 ≤ (vs l i).arr ∧ (vs l i).arr ≤ 1000)
theorem rwaits_any (Av : Option Addr) (cv : Nat) (l : List Vst) (Aa : Option Addr) (ca : Nat) (a : List Plc) (w : World) (VR : Rd w 4 Av l.length (vscs l)) (AR : Rd w 2 Aa a.length (plcs a)) (hl : l.length ≤ 5) (hs : PlSm l a) :
    Calls Tryz.prog 44 #[.slice Av l.length cv, .slice Aa a.length ca] w fun e w' => e = .returned (.int .i64 (wt l a)) ∧ Below w.heap.size w w' := by
  have hal := hs.1;have HR := Lib.hid (And.intro VR (And.intro AR hs));clear VR AR hs;rw [hal]
  go_enter Tryz.func44, Tryz.ntmps44
  go_wp2_with fail
  go_loopg [5, 6] (l.length) (fun g o i wr => ∃ k : Nat, g + k = l.length ∧ i = .int .i64 k ∧ o = .int .i64 (wsum (waitOf l a) k) ∧ Below w.heap.size w wr)
  case atStart => exact ⟨0, rfl, rfl, rfl, Below.refl _ _⟩
  case round =>
    obtain ⟨k, hk, rfl, rfl, bb⟩ := hrel;by_cases hlt : k < l.length
    · have hka : k < a.length := by omega
      obtain ⟨b1, o1, rfl, hb1, hc1⟩ := HR.out.1.2 (by omega);obtain ⟨b2, o2, rfl, hb2, hc2⟩ := HR.out.2.1.2 (by omega);have g1 := (vscs_get hlt).1;have g2 := (plcs_get hka).2;have c1 := (bb.cell (p := ⟨b1, o1 + k * 4, none⟩) hb1).trans (hc1 _ _ g1);have c2 : wr.cell? ⟨b2, o2 + k * 2 + 1, none⟩ = some (.int .i64 a[k].start) := (bb.cell (p := ⟨b2, o2 + k * 2 + 1, none⟩) hb2).trans (by rw [Nat.add_assoc]; exact hc2 _ _ g2);have z1 := Nat.lt_of_lt_of_le hb1 bb.size;have z2 := Nat.lt_of_lt_of_le hb2 bb.size;have ev : vs l k = l[k] := by unfold vs; rw [List.getD_eq_getElem?_getD, List.getElem?_eq_getElem hlt]; rfl
      have ep : pc a k = a[k] := by unfold pc; rw [List.getD_eq_getElem?_getD, List.getElem?_eq_getElem hka]; rfl
      have hbd := HR.out.2.2.2 k hlt;rw [← ev] at c1;rw [← ep] at c2;obtain ⟨x, hx⟩ : ∃ x, x = (vs l k).arr := ⟨_, rfl⟩;obtain ⟨y, hy⟩ : ∃ y, y = (pc a k).start := ⟨_, rfl⟩;rw [← hx] at c1 hbd;rw [← hy] at c2 hbd;have hws := wsum_bd (f := waitOf l a) (M := 101000) k fun i hi => by have := HR.out.2.2.2 i (by omega); unfold waitOf; omega
      obtain ⟨S, hS⟩ : ∃ S, S = wsum (waitOf l a) k := ⟨_, rfl⟩;rw [← hS] at hws ⊢;have hSb : -505000 ≤ S ∧ S ≤ 505000 := by omega
      have hS1 : wsum (waitOf l a) (k + 1) = S + y - x := by rw [wsum, ← hS]; unfold waitOf; rw [← hx, ← hy]; omega
      have HS := Lib.hid (And.intro hS1 bb);have hlt2 : (k : Int) < (l.length : Int) := by omega
      have hlt3 : (k : Int) < (a.length : Int) := by omega
      clear hc1 hc2 g1 g2 ev ep hx hy hws hS hS1 bb;go_wp2_with fail
      go_quiet (fail);go_wp2_with fail
      go_roundg (gk - 1);case measure => omega
      case rel => exact ⟨k + 1, by omega, by go_num, by rw [HS.out.1], below_drewN HS.out.2 _⟩
    · obtain rfl : k = l.length := by omega
      have HB := Lib.hid bb;clear bb;have hw : wsum (waitOf l a) l.length = wt l a := rfl;rw [hw];clear hw;go_wp2_with fail
      go_ret;exact ⟨rfl, HB.out⟩
end Go.Proofs.YtalcinepeofmcaaGreat
