import Derived.Test.YthmldeningpjbaaPRp3
import Derived.WalkKit
set_option linter.unusedVariables false
set_option linter.unusedSimpArgs false
set_option maxRecDepth 100000
set_option maxHeartbeats 40000000
namespace Go.Proofs.Ythmldeningpjbaa.Pt
open Sp
structure Val (p : Prt) (l : Pln) : Prop where
  nc : 1 ≤ p.chs.length ∧ p.chs.length ≤ 6
  nb : 1 ≤ p.bts.length ∧ p.bts.length ≤ 4
  h : 1 ≤ l.hours ∧ l.hours ≤ 100
  nx : l.calls.length ≤ 60 ∧ l.swps.length ≤ 200
  chf : ∀ c ∈ p.chs, 0 ≤ c.grow ∧ c.grow ≤ 100 ∧ 0 ≤ c.frost ∧ c.frost ≤ 20 ∧ 1 ≤ c.clear ∧ c.clear ≤ 200
  btf : ∀ b ∈ p.bts, b.path ≠ [] ∧ b.path.Nodup ∧ ∀ x ∈ b.path, 0 ≤ x ∧ x < p.chs.length
  ca : ∀ c ∈ l.calls, 0 ≤ c.berth ∧ c.berth < p.bts.length ∧ 0 ≤ c.most ∧ c.most ≤ 1000000 ∧ 0 ≤ c.hour ∧ c.hour < l.hours
  sw : ∀ s ∈ l.swps, 0 ≤ s.channel ∧ s.channel < p.chs.length ∧ 1 ≤ s.tugs ∧ s.tugs ≤ 20 ∧ 0 ≤ s.hour ∧ s.hour < l.hours
theorem ch_mem {p : Prt} {i : Int} (h0 : 0 ≤ i) (h1 : i < p.chs.length) : ch p i ∈ p.chs := by
  unfold ch;have : i.toNat < p.chs.length := by omega
  rw [List.getD_eq_getElem?_getD, List.getElem?_eq_getElem this];exact List.getElem_mem _
theorem bt_mem {p : Prt} {i : Int} (h0 : 0 ≤ i) (h1 : i < p.bts.length) : bt p i ∈ p.bts := by
  unfold bt;have : i.toNat < p.bts.length := by omega
  rw [List.getD_eq_getElem?_getD, List.getElem?_eq_getElem this];exact List.getElem_mem _
def swMaps (p : Prt) (c h : Int) (l : List Swp) : List Mp := (l.filter fun s => decide (s.hour = h) && decide (s.channel = c)).map fun s => ⟨-s.tugs * (ch p c).clear, 0, NL⟩
def caMaps (p : Prt) (c h : Int) (l : List Cal) : List Mp := (l.filter fun x => decide (x.hour = h) && (bt p x.berth).path.contains c).map fun x => ⟨(ch p c).grow, (ch p c).grow, x.most⟩
theorem swpN_length (p : Prt) (h : Int) (l : List Swp) (b : List Int) : (swpN p h l b).length = b.length := by
  induction l generalizing b with
  | nil => rfl
  | cons s l ih =>
    have e : swpN p h (s :: l) b = swpN p h l (swp1 p h b s) := rfl;rw [e, ih]; unfold swp1; split
    · exact setI_length _ _ _
    · rfl
theorem growN_length (p : Prt) (l : List Int) (b : List Int) : (growN p l b).length = b.length := by
  induction l generalizing b with
  | nil => rfl
  | cons s l ih => exact (ih _).trans (setI_length _ _ _)
theorem frostN_length (p : Prt) (b : List Int) : ∀ k, (frostN p b k).length = b.length
  | 0 => rfl
  | k + 1 => by rw [frostN, setI_length, frostN_length]
theorem mapsH_eq (p : Prt) (l : Pln) (c : Int) (h : Nat) : mapsH p l c h = swMaps p c h l.swps ++ (caMaps p c h l.calls ++ [⟨(ch p c).frost, (ch p c).frost, NL⟩]) := rfl
theorem Val.chn {p : Prt} {l : Pln} (v : Val p l) {c : Int} (c0 : 0 ≤ c) (c1 : c < p.chs.length) : 0 ≤ (ch p c).grow ∧ (ch p c).grow ≤ 100 ∧ 0 ≤ (ch p c).frost ∧ (ch p c).frost ≤ 20 ∧ 1 ≤ (ch p c).clear ∧ (ch p c).clear ≤ 200 := v.chf _ (ch_mem c0 c1)
theorem swMaps_gm {p : Prt} {l : Pln} (v : Val p l) {c : Int} (c0 : 0 ≤ c) (c1 : c < p.chs.length) (h : Int) : ∀ m ∈ swMaps p c h l.swps, Gm m := by
  intro m hm;unfold swMaps at hm;obtain ⟨s, hs, rfl⟩ := List.mem_map.1 hm;have h1 := v.sw s (List.mem_filter.1 hs).1;have h2 := v.chn c0 c1;have h3 : s.tugs * (ch p c).clear ≤ 20 * 200 := Int.mul_le_mul (by omega) (by omega) (by omega) (by omega);have h4 : 0 ≤ s.tugs * (ch p c).clear := Int.mul_nonneg (by omega) (by omega);refine ⟨?_, ⟨Int.le_refl _, by simp only; omega⟩, by simp [NL], .inl rfl⟩;simp only;rw [Int.neg_mul];omega
theorem caMaps_gm {p : Prt} {l : Pln} (v : Val p l) {c : Int} (c0 : 0 ≤ c) (c1 : c < p.chs.length) (h : Int) : ∀ m ∈ caMaps p c h l.calls, Gm m := by
  intro m hm;unfold caMaps at hm;obtain ⟨x, hx, rfl⟩ := List.mem_map.1 hm;have h1 := v.ca x (List.mem_filter.1 hx).1;have h2 := v.chn c0 c1;exact ⟨⟨by simp only; omega, by simp only; omega⟩, ⟨by simp only; omega, by simp only; omega⟩, by simp only; omega, .inr (by simp only; omega)⟩
theorem frMap_gm {p : Prt} {l : Pln} (v : Val p l) {c : Int} (c0 : 0 ≤ c) (c1 : c < p.chs.length) : Gm ⟨(ch p c).frost, (ch p c).frost, NL⟩ := by
  have h2 := v.chn c0 c1;exact ⟨⟨by simp only; omega, by simp only; omega⟩, ⟨by simp only; omega, by simp only; omega⟩, by simp [NL], .inl rfl⟩
theorem mapsH_gm {p : Prt} {l : Pln} (v : Val p l) {c : Int} (c0 : 0 ≤ c) (c1 : c < p.chs.length) (h : Nat) : ∀ m ∈ mapsH p l c h, Gm m := by
  intro m hm;rw [mapsH_eq] at hm;rcases List.mem_append.1 hm with q | q
  · exact swMaps_gm v c0 c1 h m q
  rcases List.mem_append.1 q with q | q
  · exact caMaps_gm v c0 c1 h m q
  · rw [List.mem_singleton.1 q]; exact frMap_gm v c0 c1
def mapsF (p : Prt) (l : Pln) (c : Int) (k n : Nat) : List Mp := (List.range' k n).flatMap (mapsH p l c)
theorem mapsF_succ (p : Prt) (l : Pln) (c : Int) (k n : Nat) : mapsF p l c k (n + 1) = mapsH p l c k ++ mapsF p l c (k + 1) n := by simp [mapsF, List.range'_succ]
theorem mapsS_eq (p : Prt) (l : Pln) (c : Int) : mapsS p l c = mapsF p l c 0 l.hours.toNat := by unfold mapsS mapsF; rw [List.range_eq_range']
theorem filt_two {T : Type} (f : T → Int) (k n : Int) (hn : 0 ≤ n) (l : List T) : (l.filter fun x => decide (f x = k)).length + (l.filter fun x => decide (k + 1 ≤ f x) && decide (f x < k + 1 + n)).length = (l.filter fun x => decide (k ≤ f x) && decide (f x < k + (n + 1))).length := by
  induction l with
  | nil => rfl
  | cons x l ih =>
    by_cases h1 : f x = k
    · rw [List.filter_cons_of_pos (by simp [h1]), List.filter_cons_of_neg (by simp; omega), List.filter_cons_of_pos (by simp; omega), List.length_cons, List.length_cons]; omega
    · by_cases h2 : k + 1 ≤ f x ∧ f x < k + 1 + n
      · rw [List.filter_cons_of_neg (by simp [h1]), List.filter_cons_of_pos (by simpa using h2), List.filter_cons_of_pos (by simp; omega), List.length_cons, List.length_cons]; omega
      · rw [List.filter_cons_of_neg (by simp [h1]), List.filter_cons_of_neg (by simpa using h2), List.filter_cons_of_neg (by simp; omega)]; exact ih
theorem filt_and_le {T : Type} (f g : T → Bool) (l : List T) : (l.filter fun x => f x && g x).length ≤ (l.filter f).length := by
  induction l with
  | nil => exact Nat.le_refl _
  | cons x l ih => cases h1 : f x <;> cases h2 : g x <;> simp [List.filter_cons, h1, h2] <;> omega
theorem mapsF_length (p : Prt) (l : Pln) (c : Int) : ∀ (n k : Nat), (mapsF p l c k n).length ≤ (l.swps.filter fun x => decide ((k : Int) ≤ x.hour) && decide (x.hour < (k : Int) + n)).length + (l.calls.filter fun x => decide ((k : Int) ≤ x.hour) && decide (x.hour < (k : Int) + n)).length + n
  | 0, k => by simp [mapsF]
  | n + 1, k => by
    have ih := mapsF_length p l c n (k + 1);have e1 := filt_two (fun x : Swp => x.hour) k n (by omega) l.swps;have e2 := filt_two (fun x : Cal => x.hour) k n (by omega) l.calls;have e3 := filt_and_le (fun x : Swp => decide (x.hour = (k : Int))) (fun x => decide (x.channel = c)) l.swps;have e4 := filt_and_le (fun x : Cal => decide (x.hour = (k : Int))) (fun x => (bt p x.berth).path.contains c) l.calls;rw [mapsF_succ, List.length_append, mapsH_eq, List.length_append, List.length_append];simp only [swMaps, caMaps, List.length_map, List.length_singleton];simp only [Int.natCast_add, Int.natCast_one] at *;omega
theorem mapsS_length {p : Prt} {l : Pln} (v : Val p l) (c : Int) : (mapsS p l c).length ≤ 360 := by
  rw [mapsS_eq];have h := mapsF_length p l c l.hours.toNat 0;have h1 := List.length_filter_le (fun x : Swp => decide (((0 : Nat) : Int) ≤ x.hour) && decide (x.hour < ((0 : Nat) : Int) + (l.hours.toNat : Nat))) l.swps;have h2 := List.length_filter_le (fun x : Cal => decide (((0 : Nat) : Int) ≤ x.hour) && decide (x.hour < ((0 : Nat) : Int) + (l.hours.toNat : Nat))) l.calls;have := v.nx;have := v.h;omega
theorem mapsS_gm {p : Prt} {l : Pln} (v : Val p l) {c : Int} (c0 : 0 ≤ c) (c1 : c < p.chs.length) : ∀ m ∈ mapsS p l c, Gm m := by
  intro m hm;unfold mapsS at hm;obtain ⟨h, _, h2⟩ := List.mem_flatMap.1 hm;exact mapsH_gm v c0 c1 h m h2
theorem foldS_jm {p : Prt} {l : Pln} (v : Val p l) {c : Int} (c0 : 0 ≤ c) (c1 : c < p.chs.length) : Jm 360 (foldS p l c) := by
  have h := fold_jm (mapsS_gm v c0 c1) id_jm (by have := mapsS_length v c; omega);have hl := mapsS_length v c;obtain ⟨⟨a, a'⟩, ⟨b, b'⟩, d, e, f⟩ := h;refine ⟨⟨?_, ?_⟩, ⟨b, ?_⟩, d, e, ?_⟩ <;> simp only [foldS] at * <;> omega
theorem within_iff {n a b : Int} : within n a b = true ↔ a ≤ n ∧ n ≤ b := by simp [within]
theorem pathOk_get {n : Int} {l : List Int} : ∀ {m : Nat}, pathOk n l m = true → ∀ k, k < m → within (l.getD k 0) 0 (n - 1) = true ∧ (l.take k).contains (l.getD k 0) = false
  | 0, _, k, hk => absurd hk (by omega)
  | m + 1, h, k, hk => by
    rw [pathOk, Bool.and_eq_true, Bool.and_eq_true] at h;by_cases e : k = m
    · subst e; exact ⟨h.2.1, by simpa using h.2.2⟩
    · exact pathOk_get h.1 k (by omega)
theorem path_ok {n : Int} {l : List Int} (h : pathOk n l l.length = true) : l.Nodup ∧ ∀ x ∈ l, 0 ≤ x ∧ x < n := by
  refine ⟨?_, fun x hx => ?_⟩
  · rw [List.nodup_iff_pairwise_ne];rw [List.pairwise_iff_getElem];intro i j hi hj hij e;have := (pathOk_get h j hj).2;rw [List.getD_eq_getElem?_getD, List.getElem?_eq_getElem hj, Option.getD_some, ← e] at this;simp only [List.contains_eq_mem, decide_eq_false_iff_not] at this;exact this (List.mem_take_iff_getElem.2 ⟨i, by omega, rfl⟩)
  · obtain ⟨k, hk, rfl⟩ := List.mem_iff_getElem.1 hx;have := (pathOk_get h k hk).1;rw [List.getD_eq_getElem?_getD, List.getElem?_eq_getElem hk, Option.getD_some, within_iff] at this;omega
theorem nodup_range_le : ∀ {n : Nat} {l : List Int}, l.Nodup → (∀ x ∈ l, 0 ≤ x ∧ x < n) → l.length ≤ n
  | 0, l, _, h => by
    cases l with
    | nil => exact Nat.le_refl _
    | cons x l => have := h x (by simp); omega
  | n + 1, l, hn, h => by
    have h1 := nodup_range_le (n := n) (l := l.filter (fun x => decide (x ≠ (n : Int)))) (hn.filter _) (fun x hx => by
      have h2 := List.mem_filter.1 hx;have h3 := h x h2.1;have h4 : x ≠ (n : Int) := by simpa using h2.2
      omega)
    have h5 : l.length ≤ (l.filter (fun x => decide (x ≠ (n : Int)))).length + 1 := by
      clear h h1;induction l with
      | nil => simp
      | cons x l ih =>
        obtain ⟨h6, h7⟩ := List.nodup_cons.1 hn;by_cases e : x = (n : Int)
        · subst e;have : l.filter (fun x => decide (x ≠ (n : Int))) = l := List.filter_eq_self.2 fun y hy => by
            simp only [ne_eq, decide_eq_true_eq];rintro rfl;exact h6 hy
          rw [List.filter_cons_of_neg (by simp), this, List.length_cons];omega
        · rw [List.filter_cons_of_pos (by simpa using e), List.length_cons, List.length_cons];have := ih h7;omega
    omega
structure PVal (p : Prt) : Prop where
  nc : 1 ≤ p.chs.length ∧ p.chs.length ≤ 6
  nb : 1 ≤ p.bts.length ∧ p.bts.length ≤ 4
  tg : 0 ≤ p.tugs ∧ p.tugs ≤ 20
  chf : ∀ c ∈ p.chs, 0 ≤ c.grow ∧ c.grow ≤ 100 ∧ 0 ≤ c.frost ∧ c.frost ≤ 20 ∧ 1 ≤ c.clear ∧ c.clear ≤ 200
  btf : ∀ b ∈ p.bts, 10 ≤ b.depth ∧ b.depth ≤ 3000 ∧ b.path ≠ [] ∧ b.path.Nodup ∧ ∀ x ∈ b.path, 0 ≤ x ∧ x < p.chs.length
theorem checkP_ok {p : Prt} (h : checkP p = 0) : PVal p := by
  unfold checkP at h;split at h
  · cases h
  split at h
  · cases h
  split at h
  · cases h
  split at h
  · cases h
  rename_i h1 h2 h3 h4
  simp only [Bool.not_eq_false] at h1 h2 h3 h4;rw [Bool.and_eq_true, within_iff, within_iff] at h1;rw [within_iff] at h2;refine ⟨by omega, by omega, h2, fun c hc => ?_, fun b hb => ?_⟩
  · have := List.all_eq_true.1 h3 c hc;unfold Pt.chOk at this;simp only [Bool.and_eq_true, within_iff] at this;omega
  · have := List.all_eq_true.1 h4 b hb;unfold btOk at this;simp only [Bool.and_eq_true, within_iff] at this;obtain ⟨a1, a2, a3⟩ := this;obtain ⟨q1, q2⟩ := path_ok a3;exact ⟨a1.1, a1.2, by rintro e; rw [e] at a2; simp at a2, q1, q2⟩
theorem callE_ok {p : Prt} {h : Int} {c : Cal} {f : Int} (e : callE p h c f = 0) : 0 ≤ c.berth ∧ c.berth < p.bts.length ∧ 0 ≤ c.most ∧ c.most ≤ 1000000 ∧ 0 ≤ c.tugs ∧ c.tugs ≤ 20 ∧ 10 ≤ c.draught ∧ c.draught ≤ (bt p c.berth).depth ∧ 0 ≤ c.hour ∧ c.hour < h ∧ f ≤ c.hour := by
  unfold callE at e;split at e
  · cases e
  split at e
  · cases e
  split at e
  · cases e
  split at e
  · cases e
  rename_i h1 h2 h3 h4
  simp only [Bool.not_eq_false, Bool.and_eq_true, within_iff] at h1 h2 h3;omega
theorem callsE_ok {p : Prt} {h : Int} : ∀ {l : List Cal} {f : Int}, callsE p h f l = 0 → (∀ c ∈ l, 0 ≤ c.berth ∧ c.berth < p.bts.length ∧ 0 ≤ c.most ∧ c.most ≤ 1000000 ∧ 0 ≤ c.tugs ∧ c.tugs ≤ 20 ∧ 10 ≤ c.draught ∧ c.draught ≤ (bt p c.berth).depth ∧ 0 ≤ c.hour ∧ c.hour < h ∧ f ≤ c.hour) ∧ l.Pairwise (fun a b => a.hour ≤ b.hour)
  | [], _, _ => ⟨by simp, List.Pairwise.nil⟩
  | c :: l, f, e => by
    rw [callsE] at e;split at e
    · rename_i h1; exact absurd e h1
    · rename_i h1
      have h1 : callE p h c f = 0 := by simpa using h1
      have h2 := callE_ok h1;obtain ⟨h3, h4⟩ := callsE_ok e;refine ⟨fun x hx => ?_, List.pairwise_cons.2 ⟨fun x hx => by have := h3 x hx; omega, h4⟩⟩;rcases List.mem_cons.1 hx with rfl | hx
      · exact h2
      · have := h3 x hx; omega
theorem swpsE_ok {p : Prt} {h : Int} : ∀ {l : List Swp}, swpsE p h l = 0 → ∀ s ∈ l, 0 ≤ s.channel ∧ s.channel < p.chs.length ∧ 1 ≤ s.tugs ∧ s.tugs ≤ 20 ∧ 0 ≤ s.hour ∧ s.hour < h
  | [], _, s, hs => by simp at hs
  | x :: l, e, s, hs => by
    rw [swpsE] at e;split at e
    · rename_i h1; exact absurd e h1
    · rename_i h1
      have h1 : swpE p h x = 0 := by simpa using h1
      rcases List.mem_cons.1 hs with rfl | hs
      · unfold swpE at h1;split at h1
        · cases h1
        split at h1
        · cases h1
        rename_i h2 h3
        simp only [Bool.not_eq_false, Bool.and_eq_true, within_iff] at h2 h3;omega
      · exact swpsE_ok e s hs
theorem checkL_ok {p : Prt} {l : Pln} (h : checkL p l = 0) : checkP p = 0 ∧ (l.calls.length ≤ 60 ∧ l.swps.length ≤ 200) ∧ (1 ≤ l.hours ∧ l.hours ≤ 100) ∧ callsE p l.hours 0 l.calls = 0 ∧ swpsE p l.hours l.swps = 0 ∧
    finE p.tugs (l.swps.foldl addSwp (tlyCalls p l.hours.toNat l.calls).tugs) (tlyCalls p l.hours.toNat l.calls).twice 0 l.hours.toNat = 0 := by
  unfold checkL at h;split at h
  · rename_i h1; exact absurd h h1
  split at h
  · cases h
  split at h
  · cases h
  split at h
  · rename_i h1; exact absurd h h1
  split at h
  · rename_i h1; exact absurd h h1
  rename_i h1 h2 h3 h4 h5
  simp only [Bool.not_eq_false, within_iff] at h3;exact ⟨by simpa using h1, by omega, h3, by simpa using h4, by simpa using h5, h⟩
theorem val_of {p : Prt} {l : Pln} (h : checkL p l = 0) : Val p l := by
  obtain ⟨h1, h2, h3, h4, h5, _⟩ := checkL_ok h;have hp := checkP_ok h1;obtain ⟨h6, _⟩ := callsE_ok h4;have h7 := swpsE_ok h5;exact ⟨hp.nc, hp.nb, h3, h2, hp.chf, fun b hb => (hp.btf b hb).2.2, fun c hc => by have := h6 c hc; omega, fun s hs => by have := h7 s hs; omega⟩
theorem hit_tugs (h : Int) (l : List Int) : ∀ t : Tly, (l.foldl (hit1 h) t).tugs = t.tugs := by
  induction l with
  | nil => intro t; rfl
  | cons n l ih => intro t; rw [List.foldl_cons, ih]; rfl
theorem getI_setI_bd {l : List Int} {k x B : Int} (hk : 0 ≤ k) (hl : ∀ j, -B ≤ getI l j ∧ getI l j ≤ B) (hx : -B ≤ x ∧ x ≤ B) : ∀ j, -B ≤ getI (setI l k x) j ∧ getI (setI l k x) j ≤ B := by
  intro j;have h0 := hl j;unfold getI setI at *;simp only [List.getD_eq_getElem?_getD, List.getElem?_set] at *;split
  · split
    · simpa using hx
    · have := hl (l.length : Int); simp at this; simpa using (by omega : -B ≤ 0 ∧ 0 ≤ B)
  · exact h0
theorem tly_bd (p : Prt) : ∀ (l : List Cal) (t : Tly) (B : Int), (∀ j, -B ≤ getI t.tugs j ∧ getI t.tugs j ≤ B) → (∀ c ∈ l, 0 ≤ c.hour ∧ 0 ≤ c.tugs ∧ c.tugs ≤ 20) →
    ∀ j, -(B + 20 * l.length) ≤ getI (l.foldl (tlyCall p) t).tugs j ∧ getI (l.foldl (tlyCall p) t).tugs j ≤ B + 20 * l.length
  | [], t, B, h, _, j => by simpa using h j
  | c :: l, t, B, h, hc, j => by
    obtain ⟨c1, c2, c3⟩ := hc c (by simp);have h1 : ∀ j, -(B + 20) ≤ getI (tlyCall p t c).tugs j ∧ getI (tlyCall p t c).tugs j ≤ B + 20 := by
      rw [tlyCall, hit_tugs];refine getI_setI_bd c1 (fun j => by have := h j; omega) ?_;have := h c.hour;omega
    have := tly_bd p l (tlyCall p t c) (B + 20) h1 (fun x hx => hc x (by simp [hx])) j;rw [List.foldl_cons, List.length_cons];omega
theorem swp_bd : ∀ (l : List Swp) (t : List Int) (B : Int), (∀ j, -B ≤ getI t j ∧ getI t j ≤ B) → (∀ s ∈ l, 0 ≤ s.hour ∧ 0 ≤ s.tugs ∧ s.tugs ≤ 20) →
    ∀ j, -(B + 20 * l.length) ≤ getI (l.foldl addSwp t) j ∧ getI (l.foldl addSwp t) j ≤ B + 20 * l.length
  | [], t, B, h, _, j => by simpa using h j
  | c :: l, t, B, h, hc, j => by
    obtain ⟨c1, c2, c3⟩ := hc c (by simp);have h1 : ∀ j, -(B + 20) ≤ getI (addSwp t c) j ∧ getI (addSwp t c) j ≤ B + 20 := by
      refine getI_setI_bd c1 (fun j => by have := h j; omega) ?_;have := h c.hour;omega
    have := swp_bd l (addSwp t c) (B + 20) h1 (fun x hx => hc x (by simp [hx])) j;rw [List.foldl_cons, List.length_cons];omega
theorem tly0_get (H : Nat) (j : Int) : getI (tly0 H).tugs j = 0 := by
  unfold getI tly0;simp only [List.getD_eq_getElem?_getD, List.getElem?_replicate];split <;> rfl
end Go.Proofs.Ythmldeningpjbaa.Pt
namespace Go.Proofs.Ythmldeningpjbaa
open Go
def hasReg (n : Nat) : Code → Bool
  | .region k _ _ => k == n
  | .loop c => hasReg n c
  | .seq a b => hasReg n a || hasReg n b
  | .block _ c => hasReg n c
  | .scope c => hasReg n c
  | .cond _ a b => hasReg n a || hasReg n b
  | _ => false
def restAt (n : Nat) : Code → Code
  | .seq a b => if hasReg n a then .seq a b else restAt n b
  | .scope c => restAt n c
  | c => c
noncomputable def restOf (f : Func) (n : Nat) : Code := restAt n (f.body.getD .skip)
end Go.Proofs.Ythmldeningpjbaa
namespace Go.Proofs.Ythmldeningpjbaa
open Go Go.RowKit Go.WideMaps Sp Pt
def PsV (W0 : World) (tb xb k H : Nat) (x tg : Int) : Nat → Value → Prop
  | 0, v => v = .slice (some ⟨tb, 0, none⟩) H H
  | 1, v => v = .pointer (some ⟨xb, 0, none⟩)
  | 2, v => v = .int .i64 k
  | 3, v => v = .pointer (some ⟨tb, k, none⟩)
  | 4, v => v = .int .i64 x
  | 5, v => v = .pointer (some ⟨xb, 2, none⟩)
  | 6, v => v = .int .i64 tg
  | 7, v => v = .int .i64 (x + tg)
  | 8, v => v = .pointer (some ⟨tb, k, none⟩)
  | _, _ => True
def PsW (W0 : World) (tb xb k H : Nat) (x tg : Int) (l : Nat → Bool) (w : World) : Prop := if l 9 then w = (W0.setCell ⟨tb, k, none⟩ (.int .i64 (x + tg))).drew else w = W0.drew
theorem plSw {W0 wr : World} {mb tb wb H L cl i D : Nat} {Al : Option Addr} {t : Tly} {ss : List Swp} (S : PlSt W0 wr mb tb wb H t) (hD : D ≤ mb ∧ D ≤ tb ∧ D ≤ wb ∧ D ≤ W0.heap.size) (hcs : RdB D W0 3 Al L (swcs ss)) (hL : ss.length = L) (hi : i < L) (hL2 : L ≤ 1000)
    (hc : 0 ≤ (ss.getD i default).hour ∧ (ss.getD i default).hour < H ∧ -1000 ≤ (ss.getD i default).tugs ∧ (ss.getD i default).tugs ≤ 1000) (hH : H ≤ 1000) (htg : ∀ k, -1000000 ≤ getI t.tugs k ∧ getI t.tugs k ≤ 1000000) (hne : mb ≠ tb ∧ mb ≠ wb ∧ tb ≠ wb) {s0 s1 s2 s3 s4 s5 s6 s7 s8 s9 s10 s11 s12 s14 s15 s16 s17 s18 s19 s20 s21 s22 s23 s24 s25 s26 s27 s28 s29 s30 s31 s32 s33 s34 s35 s36 s37 s38 s39 s40 s41 s42 s43 s44 s45 s46 s47 s48 s49 s50 s51 s52 s53 s54 s55 s56 s57 s58 s59 s60 s61 s62 s63 s64 s65 s66 s67 s68 s69 s70 s71 s72 s73 s74 s75 s76 s77 s78 s79 s80 s81 s82 s83 s84 s85 s86 s87 s88 s89 s90 s91 s92 s93 s94 s95 s96 s97 s98 s99 s100 s101 s102 s103 s104 s105 s106 s107 s108 s109 s110 s111 s112 s113 s114 s115 s116 s117 s118 s119 s120 s121 s122 s123 s124 s125 s126 s127 s128 s129 s130 s131 s132 s133 s134 s135 s136 s137 s138 s139 s140 s141 s142 s143 s144 s145 s146 s147 s148 s149 s150 s151 s152 s153 s154 s155 s156 s160 s161 s162 s163 s164 s165 s166 s167 s168 s169 s170 s171 s172 s173 s174 s175 s176 s177 s178 s179 s180 s181 s182 s183 s184 s185 s186 s187 s188 s189 s190 : Value} {Q0 : Exit → Act → World → Prop} {Inv : Act → World → Prop}
    (hInv : ∀ (t20 t160 t161 t162 t163 t164 t165 t166 t167 t168 t169 t170 t171 t172 : Value)  (w' : World), PlSt W0 w' mb tb wb H ⟨addSwp t.tugs (ss.getD i default), t.twice, t.hits⟩ → Inv ⟨#[s0, s1, s2, s3, s4, s5, s6, s7, s8, s9, s10, s11, s12, .slice (some ⟨tb, 0, none⟩) H H, s14, s15, s16, s17, s18, s19, t20, s21, s22, s23, s24, s25, s26, s27, s28, s29, s30, s31, s32, s33, s34, s35, s36, s37, s38, s39, s40, s41, s42, s43, s44, s45, s46, s47, s48, s49, s50, s51, s52, s53, s54, s55, s56, s57, s58, s59, s60, s61, s62, s63, s64, s65, s66, s67, s68, s69, s70, s71, s72, s73, s74, s75, s76, s77, s78, s79, s80, s81, s82, s83, s84, s85, s86, s87, s88, s89, s90, s91, s92, s93, s94, s95, s96, s97, s98, s99, s100, s101, s102, s103, s104, s105, s106, s107, s108, s109, s110, s111, s112, s113, s114, s115, s116, s117, s118, s119, s120, s121, s122, s123, s124, s125, s126, s127, s128, s129, s130, s131, s132, s133, s134, s135, s136, s137, s138, s139, s140, s141, s142, s143, s144, s145, s146, s147, s148, s149, s150, s151, s152, s153, s154, s155, s156, .slice Al L cl, .int .i64 L, .int .i64 ((i + 1 : Nat) : Int), t160, t161, t162, t163, t164, t165, t166, t167, t168, t169, t170, t171, t172, s173, s174, s175, s176, s177, s178, s179, s180, s181, s182, s183, s184, s185, s186, s187, s188, s189, s190], []⟩ w') :
    Code.wp Try.prog (loopBody Try.f52 4) (Exit.then Inv Q0) ⟨#[s0, s1, s2, s3, s4, s5, s6, s7, s8, s9, s10, s11, s12, .slice (some ⟨tb, 0, none⟩) H H, s14, s15, s16, s17, s18, s19, s20, s21, s22, s23, s24, s25, s26, s27, s28, s29, s30, s31, s32, s33, s34, s35, s36, s37, s38, s39, s40, s41, s42, s43, s44, s45, s46, s47, s48, s49, s50, s51, s52, s53, s54, s55, s56, s57, s58, s59, s60, s61, s62, s63, s64, s65, s66, s67, s68, s69, s70, s71, s72, s73, s74, s75, s76, s77, s78, s79, s80, s81, s82, s83, s84, s85, s86, s87, s88, s89, s90, s91, s92, s93, s94, s95, s96, s97, s98, s99, s100, s101, s102, s103, s104, s105, s106, s107, s108, s109, s110, s111, s112, s113, s114, s115, s116, s117, s118, s119, s120, s121, s122, s123, s124, s125, s126, s127, s128, s129, s130, s131, s132, s133, s134, s135, s136, s137, s138, s139, s140, s141, s142, s143, s144, s145, s146, s147, s148, s149, s150, s151, s152, s153, s154, s155, s156, .slice Al L cl, .int .i64 L, .int .i64 i, s160, s161, s162, s163, s164, s165, s166, s167, s168, s169, s170, s171, s172, s173, s174, s175, s176, s177, s178, s179, s180, s181, s182, s183, s184, s185, s186, s187, s188, s189, s190], []⟩ wr := by
  conv => arg 2; whnf
  obtain ⟨hr0, hr1, tg0, tg1⟩ := hc;have hg : ss[i]'(by omega) = ss.getD i default := by simp [List.getD_eq_getElem?_getD, List.getElem?_eq_getElem (show i < ss.length by omega)]
  generalize ss.getD i default = x0 at *;obtain ⟨bc, oc, rfl, hbc, hcc⟩ := hcs.2 (by omega);obtain ⟨g0, g1, g2⟩ := swcs_get (l := ss) (k := i) (by omega);rw [hg] at g0 g1 g2;have cw : ∀ {o : Nat} {u : Value}, W0.cell? ⟨bc, o, none⟩ = some u → wr.cell? ⟨bc, o, none⟩ = some u := fun h => S.kp.cell h (by simp; omega);obtain ⟨ho, cn, tg⟩ := x0;simp only at hr0 hr1 tg0 tg1 g0 g1 g2;obtain ⟨k, rfl⟩ := Int.eq_ofNat_of_zero_le hr0;have hk : k < H := by omega
  have c0 := cw (hcc _ _ g0);have c1 : wr.cell? ⟨bc, oc + i * 3 + 1, none⟩ = _ := cw (hcc _ _ g1);have c2 : wr.cell? ⟨bc, oc + i * 3 + 2, none⟩ = _ := cw (hcc _ _ g2);have zc := World.block_lt_of_cell? _ _ c0;obtain ⟨W2, hW2⟩ : ∃ W2, W2 = wr.alloc (.cells #[.int .i64 k, .int .i64 cn, .int .i64 tg] 126) := ⟨_, rfl⟩;obtain ⟨xb, hxb⟩ : ∃ xb, xb = wr.heap.size := ⟨_, rfl⟩;have hxh : W2.heap[xb]? = some (.cells #[.int .i64 k, .int .i64 cn, .int .i64 tg] 126 (0, 0)) := by rw [hW2, hxb]; exact heap_alloc_new _ _
  have S2 : PlSt W0 W2 mb tb wb H t := by rw [hW2]; exact S.alloc _
  obtain ⟨x, hx⟩ : ∃ x, x = getI t.tugs k := ⟨_, rfl⟩;have hxr := htg k;rw [← hx] at hxr;have e1 : W2.cell? ⟨tb, k, none⟩ = some (.int .i64 x) := by rw [cOH S2.tg, List.getElem?_toArray, iG_ (by rw [S2.tl]; exact hk), hx]; simp [getI]
  have HE := Lib.hid (And.intro ((cOH hxh 0).trans rfl) (And.intro ((cOH hxh 2).trans rfl) (And.intro e1 (And.intro (fOH S2.tg k) (And.intro (hL_ hxh) (hL_ S2.tg))))));have HI := Lib.hid hInv;have HS := Lib.hid (And.intro S2 hx);have HN := Lib.hid hne;have n1 : (i : Int) < (L : Int) := by omega
  clear hInv S S2 hxh hx hcs hcc cw g0 g1 g2 e1 htg hne hg;go_upto_region 41 with fail
  rw [← hW2, ← hxb];clear hW2 hxb c0 c1 c2 zc;have k1 : (0 : Int) ≤ (k : Int) := by omega
  have k2 : (k : Int) < (H : Int) := by omega
  refine wRS (σ := Unit) (by kernel_rfl) (by kernel_rfl) (fun _ jx vx _ => PsV W2 tb xb k H x tg jx vx) (fun _ ly wx => PsW W2 tb xb k H x tg ly wx) () ?_ ?_ ?_
  · exact (by unfold PsW; rw [if_neg (by simp)])
  · simp only [AllFrom, Nat.zero_add, Nat.reduceAdd];refine ⟨?_, ?_, ?_, ?_, ?_, ?_, ?_, ?_, ?_, ?_, trivial⟩
    · refine sP_ fun sg ly a wr hl hd hW hF => ?_;have et13 := hF.old 13 (by kernel_rfl);simp [Act.eval] at et13;exact ⟨by simpa [PsW, upd] using hW, .slice (some ⟨tb, 0, none⟩) H H, by go_simp, rfl⟩
    · refine sP_ fun sg ly a wr hl hd hW hF => ?_;have et20 := hF.old 20 (by kernel_rfl);simp [Act.eval] at et20;exact ⟨by simpa [PsW, upd] using hW, .pointer (some ⟨xb, 0, none⟩), by go_simp, rfl⟩
    · refine sP_ fun sg ly a wr hl hd hW hF => ?_;simp [Region.binds] at hd;have et164 := hF.new 1 164 (by simp [hd]) rfl;simp [PsV, Act.eval] at et164;have n9_8 := hF.notYet 2 8 hl (by kernel_rfl);have n9 := hF.notYet 8 9 n9_8 (by kernel_rfl);have hW' := hW;unfold PsW at hW';rw [if_neg (by simp [n9])] at hW';subst hW';obtain ⟨d0, d5, e1, q1, zx, zt⟩ := HE.out;exact ⟨by unfold PsW; rw [if_neg (by simp [upd, n9])], _, by go_simp, rfl⟩
    · refine sP_ fun sg ly a wr hl hd hW hF => ?_;simp [Region.binds] at hd;have et163 := hF.new 0 163 (by simp [hd]) rfl;simp [PsV, Act.eval] at et163;have et165 := hF.new 2 165 (by simp [hd]) rfl;simp [PsV, Act.eval] at et165;exact ⟨by simpa [PsW, upd] using hW, .pointer (some ⟨tb, k, none⟩), by go_simp, rfl⟩
    · refine sP_ fun sg ly a wr hl hd hW hF => ?_;simp [Region.binds] at hd;have et166 := hF.new 3 166 (by simp [hd]) rfl;simp [PsV, Act.eval] at et166;have n9_7 := hF.notYet 4 7 hl (by kernel_rfl);have n9 := hF.notYet 7 9 n9_7 (by kernel_rfl);have hW' := hW;unfold PsW at hW';rw [if_neg (by simp [n9])] at hW';subst hW';obtain ⟨d0, d5, e1, q1, zx, zt⟩ := HE.out;exact ⟨by unfold PsW; rw [if_neg (by simp [upd, n9])], _, by go_simp, rfl⟩
    · refine sP_ fun sg ly a wr hl hd hW hF => ?_;have et20 := hF.old 20 (by kernel_rfl);simp [Act.eval] at et20;exact ⟨by simpa [PsW, upd] using hW, .pointer (some ⟨xb, 2, none⟩), by go_simp, rfl⟩
    · refine sP_ fun sg ly a wr hl hd hW hF => ?_;simp [Region.binds] at hd;have et168 := hF.new 5 168 (by simp [hd]) rfl;simp [PsV, Act.eval] at et168;have n9_7 := hF.notYet 6 7 hl (by kernel_rfl);have n9 := hF.notYet 7 9 n9_7 (by kernel_rfl);have hW' := hW;unfold PsW at hW';rw [if_neg (by simp [n9])] at hW';subst hW';obtain ⟨d0, d5, e1, q1, zx, zt⟩ := HE.out;exact ⟨by unfold PsW; rw [if_neg (by simp [upd, n9])], _, by go_simp, rfl⟩
    · refine sP_ fun sg ly a wr hl hd hW hF => ?_;simp [Region.binds] at hd;have et167 := hF.new 4 167 (by simp [hd]) rfl;simp [PsV, Act.eval] at et167;have et169 := hF.new 6 169 (by simp [hd]) rfl;simp [PsV, Act.eval] at et169;have ew := IntWalk.i64_in (x + tg) (by omega);exact ⟨by simpa [PsW, upd] using hW, .int .i64 (x + tg), by go_simp, rfl⟩
    · refine sP_ fun sg ly a wr hl hd hW hF => ?_;simp [Region.binds] at hd;have et163 := hF.new 0 163 (by simp [hd]) rfl;simp [PsV, Act.eval] at et163;have et165 := hF.new 2 165 (by simp [hd]) rfl;simp [PsV, Act.eval] at et165;exact ⟨by simpa [PsW, upd] using hW, .pointer (some ⟨tb, k, none⟩), by go_simp, rfl⟩
    · refine sS_ rfl fun sg ly a wr hl hd hW hF => ?_;simp [Region.binds] at hd;have et171 := hF.new 8 171 (by simp [hd]) rfl;simp [PsV, Act.eval] at et171;have et170 := hF.new 7 170 (by simp [hd]) rfl;simp [PsV, Act.eval] at et170;have hW' := hW;unfold PsW at hW';rw [if_neg (by simp [hl])] at hW';subst hW';obtain ⟨d0, d5, e1, q1, zx, zt⟩ := HE.out;refine ⟨(W2.setCell ⟨tb, k, none⟩ (.int .i64 (x + tg))).drew, (), .skip, by go_simp, .inl rfl, by unfold PsW; rw [if_pos (by simp [upd])], fun _ _ _ h => h⟩
  intro _ a w3 hWW hF;obtain ⟨f3, hf3, rfl⟩ := hF.lit;have hw3 : w3 = (W2.setCell ⟨tb, k, none⟩ (.int .i64 (x + tg))).drew := by
    have h5 := hWW;unfold PsW at h5
    rwa [if_pos (by simp)] at h5
  have S3 : PlSt W0 w3 mb tb wb H ⟨setI t.tugs k (x + tg), t.twice, t.hits⟩ := by rw [hw3]; exact HS.out.1.tug _ hk ⟨HN.out.1, HN.out.2.2⟩
  have H3 := Lib.hid S3;clear hf3 hF hWW hw3 HE S3;simp only [List.filterMap, List.foldl, List.setIfInBounds_toArray, List.set_cons_succ, List.set_cons_zero];go_wp2_with fail
  refine HI.out _ _ _ _ _ _ _ _ _ _ _ _ _ _ _ ?_;rw [addSwp, ← HS.out.2];exact H3.out
def falses (n : Nat) : Array Value := (List.replicate n (Value.bool false)).toArray
theorem run_make_bools {P : Program} (t e : TypeId) (i : TypeInfo) (ht : P.underlying t = some (.slice e)) (hi : P.info? e = some i) (hz : i.zero = some (.bool false)) (hsize : i.size = 1) (hby : i.bytes = 1) (n : Nat) (hn : n ≤ 1000000) (w : World) :
    (Instr.makeSlice t (.int .i64 (n : Int)) (.int .i64 (n : Int))).run P w = .ok (.slice (some ⟨w.heap.size, 0, none⟩) n n) (w.alloc (.cells (falses n) e)) := by
  have hr := run_make (P := P) w t e i (.bool false) ht hi hz .i64 .i64 n n (by omega) (Int.le_refl _) (by rw [hby]; omega) (by omega);simp only [Int.toNat_natCast, hsize, Nat.mul_one] at hr;rw [hr]
  congr 3
  apply Array.ext';rw [show (Value.bool false).cells = #[Value.bool false] from rfl, toList_madeCells_one];simp [falses]
theorem info_boolP : (Try.prog.info? 4).map (fun i => (i.zero, i.size, i.bytes)) = some (some (.bool false), 1, 1) := by kernel_rfl
theorem info_intP : (Try.prog.info? 3).map (fun i => (i.zero, i.size, i.bytes)) = some (some (.int .i64 0), 1, 8) := by kernel_rfl
def PmV (W0 : World) (lb H : Nat) (s : Nat × Nat) : Nat → Value → Prop
  | 0, v => v = .pointer (some ⟨lb, 0, none⟩)
  | 1, v => v = .int .i64 H
  | 2, v => v = .slice (some ⟨s.1, 0, none⟩) H H
  | 3, v => v = .pointer (some ⟨lb, 0, none⟩)
  | 4, v => v = .int .i64 H
  | 5, v => v = .slice (some ⟨s.2, 0, none⟩) H H
  | 6, v => v = .slice (some ⟨s.1, 0, none⟩) H H
  | 7, v => v = .slice (some ⟨s.2, 0, none⟩) H H
  | _, _ => True
def PmW (W0 : World) (lb H : Nat) (s : Nat × Nat) (l : Nat → Bool) (w : World) : Prop := Keep [] W0 w ∧ (l 2 = true → w.heap[s.1]? = some (.cells (noughts H) 3 (0, 0)) ∧ W0.heap.size ≤ s.1) ∧ (l 5 = true → w.heap[s.2]? = some (.cells (falses H) 4 (0, 0)) ∧ W0.heap.size ≤ s.2)
theorem plTail {Q0 : Exit → Act → World → Prop} {w w0 : World} {pb lb H cb cc cl cs D : Nat} {Ac Ab Al As : Option Addr} {pr : Prt} {pl : Pln} (bw : Below w.heap.size w w0) (hp : w0.heap[pb]? = some (.cells (prtV Ac cc Ab cb pr) 26 (0, 0))) (hlb : w0.heap[lb]? = some (.cells (plnV Al cl As cs pl) 31 (0, 0))) (PB : PrtB D w0 Ac cc Ab cb pr) (LB : PlnB D w0 Al cl As cs pl) (hD : D ≤ w0.heap.size) (pv : PVal pr) (hH : pl.hours = (H : Int)) (hHr : 1 ≤ H ∧ H ≤ 100) (hn : pl.calls.length ≤ 60 ∧ pl.swps.length ≤ 200)
    (hca : ∀ c ∈ pl.calls, 0 ≤ c.berth ∧ c.berth < pr.bts.length ∧ 0 ≤ c.most ∧ c.most ≤ 1000000 ∧ 0 ≤ c.tugs ∧ c.tugs ≤ 20 ∧ 10 ≤ c.draught ∧ c.draught ≤ (bt pr c.berth).depth ∧ 0 ≤ c.hour ∧ c.hour < pl.hours ∧ 0 ≤ c.hour) (hsw : ∀ s ∈ pl.swps, 0 ≤ s.channel ∧ s.channel < pr.chs.length ∧ 1 ≤ s.tugs ∧ s.tugs ≤ 20 ∧ 0 ≤ s.hour ∧ s.hour < pl.hours) {s0 s1 s4 s5 s6 s7 s8 s9 s10 s11 s12 s13 s14 s15 s16 s17 s18 s19 s20 s21 s22 s23 s24 s25 s26 s27 s28 s29 s30 s31 s32 s33 s34 s35 s36 s37 s38 s39 s40 s41 s42 s43 s44 s45 s46 s47 s48 s49 s50 s51 s52 s53 s54 s55 s56 s57 s58 s59 s60 s61 s62 s63 s64 s65 s66 s67 s68 s69 s70 s71 s72 s73 s74 s75 s76 s77 s78 s79 s80 s81 s82 s83 s84 s85 s86 s87 s88 s89 s90 s91 s92 s93 s94 s95 s96 s97 s98 s99 s100 s101 s102 s103 s104 s105 s106 s107 s108 s109 s110 s111 s112 s113 s114 s115 s116 s117 s118 s119 s120 s121 s122 s123 s124 s125 s126 s127 s128 s129 s130 s131 s132 s133 s134 s135 s136 s137 s138 s139 s140 s141 s142 s143 s144 s145 s146 s147 s148 s149 s150 s151 s152 s153 s154 s155 s156 s157 s158 s159 s160 s161 s162 s163 s164 s165 s166 s167 s168 s169 s170 s171 s172 s173 s174 s175 s176 s177 s178 s179 s180 s181 s182 s183 s184 s185 s186 s187 s188 s189 s190 : Value} (hQ0 : ∀ e1 a1 w1, bodyPost Try.prog Try.f52 (fun e w' => e = .returned (.int .i64 (finE pr.tugs (pl.swps.foldl addSwp (tlyCalls pr H pl.calls).tugs) (tlyCalls pr H pl.calls).twice 0 H)) ∧ Below w.heap.size w w') e1 a1 w1 → Q0 e1 a1 w1) :
    Code.wp Try.prog (restOf Try.f52 25) Q0 ⟨#[s0, s1, .pointer (some ⟨pb, 0, none⟩), .pointer (some ⟨lb, 0, none⟩), s4, s5, s6, s7, s8, s9, s10, s11, s12, s13, s14, s15, s16, s17, s18, s19, s20, s21, s22, s23, s24, s25, s26, s27, s28, s29, s30, s31, s32, s33, s34, s35, s36, s37, s38, s39, s40, s41, s42, s43, s44, s45, s46, s47, s48, s49, s50, s51, s52, s53, s54, s55, s56, s57, s58, s59, s60, s61, s62, s63, s64, s65, s66, s67, s68, s69, s70, s71, s72, s73, s74, s75, s76, s77, s78, s79, s80, s81, s82, s83, s84, s85, s86, s87, s88, s89, s90, s91, s92, s93, s94, s95, s96, s97, s98, s99, s100, s101, s102, s103, s104, s105, s106, s107, s108, s109, s110, s111, s112, s113, s114, s115, s116, s117, s118, s119, s120, s121, s122, s123, s124, s125, s126, s127, s128, s129, s130, s131, s132, s133, s134, s135, s136, s137, s138, s139, s140, s141, s142, s143, s144, s145, s146, s147, s148, s149, s150, s151, s152, s153, s154, s155, s156, s157, s158, s159, s160, s161, s162, s163, s164, s165, s166, s167, s168, s169, s170, s171, s172, s173, s174, s175, s176, s177, s178, s179, s180, s181, s182, s183, s184, s185, s186, s187, s188, s189, s190], []⟩ w0 := by
  refine wp_mono ?_ hQ0;clear hQ0
  conv => arg 2; whnf
  obtain ⟨iI, hI, hI0, hI1, hI2⟩ := info_parts info_intP;obtain ⟨iB, hB, hB0, hB1, hB2⟩ := info_parts info_boolP;have hll := hL_ hlb;obtain ⟨W1, hW1⟩ : ∃ W1, W1 = w0.alloc (.map #[] 0) := ⟨_, rfl⟩;obtain ⟨mb, hmb⟩ : ∃ mb, mb = w0.heap.size := ⟨_, rfl⟩;have M1 : MapI Try.prog 193 W1 mb 0 (fun _ => 0) := by rw [hW1, hmb]; exact MapI.made _
  have b1 : Below w0.heap.size w0 W1 := by rw [hW1]; exact (Below.refl _ _).alloc (Nat.le_refl _) _
  have hl1 := (b1.block _ hll).trans hlb;have hmbs : w0.heap.size ≤ mb ∧ mb < W1.heap.size := ⟨by omega, M1.lt⟩;have HL := Lib.hid (show W1.cell? ⟨lb, 0, none⟩ = some (.int .i64 H) from by rw [← hH]; exact (cOH hl1 0).trans rfl);have zl := hL_ hl1;have H0 := Lib.hid (And.intro bw (And.intro hp (And.intro PB (And.intro LB (And.intro pv (And.intro hca (And.intro hsw (And.intro hlb (And.intro M1 b1)))))))));have HH := Lib.hid hH;have hmm : (Instr.makeMap 192 none).run Try.prog w0 = .ok (.map (some w0.heap.size)) (w0.alloc (.map #[] 0)) := run_makeMap ..;clear bw hp PB LB pv hca hsw hlb M1 b1 hl1 hH;go_upto_region 26 with fail
  rw [← hW1, ← hmb];clear hW1 hmb;refine wRS (σ := Nat × Nat) (by kernel_rfl) (by kernel_rfl) (fun sg jx vx _ => PmV W1 lb H sg jx vx) (fun sg ly wx => PmW W1 lb H sg ly wx) (0, 0) ?_ ?_ ?_
  · exact ⟨(Keep.refl _ _).drew, (fun h => absurd h (by simp)), (fun h => absurd h (by simp))⟩
  · simp only [AllFrom, Nat.zero_add, Nat.reduceAdd];refine ⟨?_, ?_, ?_, ?_, ?_, ?_, ?_, ?_, trivial⟩
    · refine sP_ fun sg ly a wr hl hd hW hF => ?_;have et3 := hF.old 3 (by kernel_rfl);simp [Act.eval] at et3;exact ⟨by simpa [PmW, upd] using hW, .pointer (some ⟨lb, 0, none⟩), by go_simp, rfl⟩
    · refine sP_ fun sg ly a wr hl hd hW hF => ?_;simp [Region.binds] at hd;have et93 := hF.new 0 93 (by simp [hd]) rfl;simp [PmV, Act.eval] at et93;have c0 := hW.1.cell HL.out (by simp);exact ⟨by simpa [PmW, upd] using hW, _, by go_simp, rfl⟩
    · refine sR_ fun sg ly a wr hl hd hW hF => ?_;simp [Region.binds] at hd;have et94 := hF.new 1 94 (by simp [hd]) rfl;simp [PmV, Act.eval] at et94;have n6 := hF.notYet 2 6 hl (by kernel_rfl);have hmk := run_make_ints (P := Try.prog) 33 iI Try.underlying33 hI hI0 hI1 hI2 H (by omega) wr;refine ⟨_, wr.alloc (.cells (noughts H) 3), (wr.heap.size, sg.2), by go_simp, ⟨hW.1.alloc _, fun _ => ⟨heap_alloc_new _ _, hW.1.size⟩, fun h => ⟨hA_ (hW.2.2 (by simpa [upd] using h)).1 _, (hW.2.2 (by simpa [upd] using h)).2⟩⟩, rfl, ?_⟩;intro i u hi h;have i2 : i ≠ 2 := by rintro rfl; rw [hl] at hi; cases hi
      have i16 : i ≠ 6 := by rintro rfl; rw [n6] at hi; cases hi
      unfold PmV at h ⊢;split at h <;> first | exact h | exact absurd rfl i2 | exact absurd rfl i16
    · refine sP_ fun sg ly a wr hl hd hW hF => ?_;have et3 := hF.old 3 (by kernel_rfl);simp [Act.eval] at et3;exact ⟨by simpa [PmW, upd] using hW, .pointer (some ⟨lb, 0, none⟩), by go_simp, rfl⟩
    · refine sP_ fun sg ly a wr hl hd hW hF => ?_;simp [Region.binds] at hd;have et96 := hF.new 3 96 (by simp [hd]) rfl;simp [PmV, Act.eval] at et96;have c0 := hW.1.cell HL.out (by simp);exact ⟨by simpa [PmW, upd] using hW, _, by go_simp, rfl⟩
    · refine sR_ fun sg ly a wr hl hd hW hF => ?_;simp [Region.binds] at hd;have et97 := hF.new 4 97 (by simp [hd]) rfl;simp [PmV, Act.eval] at et97;have n7 := hF.notYet 5 7 hl (by kernel_rfl);have hmk := run_make_bools (P := Try.prog) 40 4 iB Try.underlying40 hB hB0 hB1 hB2 H (by omega) wr;refine ⟨_, wr.alloc (.cells (falses H) 4), (sg.1, wr.heap.size), by go_simp, ⟨hW.1.alloc _, fun h => ⟨hA_ (hW.2.1 (by simpa [upd] using h)).1 _, (hW.2.1 (by simpa [upd] using h)).2⟩, fun _ => ⟨heap_alloc_new _ _, hW.1.size⟩⟩, rfl, ?_⟩;intro i u hi h;have i2 : i ≠ 5 := by rintro rfl; rw [hl] at hi; cases hi
      have i17 : i ≠ 7 := by rintro rfl; rw [n7] at hi; cases hi
      unfold PmV at h ⊢;split at h <;> first | exact h | exact absurd rfl i2 | exact absurd rfl i17
    · refine sP_ fun sg ly a wr hl hd hW hF => ?_;simp [Region.binds] at hd;have et95 := hF.new 2 95 (by simp [hd]) rfl;simp [PmV, Act.eval] at et95;exact ⟨by simpa [PmW, upd] using hW, .slice (some ⟨sg.1, 0, none⟩) H H, by go_simp, rfl⟩
    · refine sP_ fun sg ly a wr hl hd hW hF => ?_;simp [Region.binds] at hd;have et98 := hF.new 5 98 (by simp [hd]) rfl;simp [PmV, Act.eval] at et98;exact ⟨by simpa [PmW, upd] using hW, .slice (some ⟨sg.2, 0, none⟩) H H, by go_simp, rfl⟩
  intro sg a w4 hWW hF;have e13 := hF.new 6 13 (by decide) rfl;have e14 := hF.new 7 14 (by decide) rfl;obtain ⟨f4, hf4, rfl⟩ := hF.lit;rw [← hf4] at e13 e14;simp only [PmV] at e13 e14;obtain ⟨k4, u4, v4⟩ := hWW;obtain ⟨t4, t4'⟩ := u4 (by simp);obtain ⟨b4, b4'⟩ := v4 (by simp);clear u4 v4;obtain ⟨tb, wb⟩ := sg;simp only at t4 t4' b4 b4' e13 e14;have hne : mb ≠ tb ∧ mb ≠ wb ∧ tb ≠ wb := ⟨by omega, by omega, by rintro rfl; rw [t4] at b4; injection b4 with b4; injection b4 with _ b4; exact absurd b4 (by decide)⟩;have S4 : PlSt w4 w4 mb tb wb H (tly0 H) := ⟨Keep.refl _ _, by rw [t4]; simp [noughts, tly0, ints], by simp [tly0], by rw [b4]; simp [falses, tly0, bools], by simp [tly0], (H0.out.2.2.2.2.2.2.2.2.1.of_heap (k4.block _ hmbs.2 (by simp))).congr (fun v => by rw [show (tly0 H).hits = [] from rfl, cntV_nil])⟩;have B4 : Below w0.heap.size w0 w4 := H0.out.2.2.2.2.2.2.2.2.2.trans (k4.below (by omega) (by simp));have H4 := Lib.hid (And.intro S4 (And.intro hne B4));have hD4 : D ≤ mb ∧ D ≤ tb ∧ D ≤ wb ∧ D ≤ w4.heap.size := ⟨by omega, by omega, by omega, by have := B4.size; omega⟩;have htbs : w0.heap.size ≤ tb ∧ w0.heap.size ≤ wb := ⟨by omega, by omega⟩;clear hf4 hF k4 t4 t4' b4 b4' hne S4 B4 HL zl;simp only [List.filterMap, List.foldl, List.setIfInBounds_toArray, List.set_cons_succ, List.set_cons_zero, e13, e14];clear e13 e14;have hp4 := (H4.out.2.2.block _ (hL_ H0.out.2.1)).trans H0.out.2.1;have hl4 := (H4.out.2.2.block _ (hL_ H0.out.2.2.2.2.2.2.2.1)).trans H0.out.2.2.2.2.2.2.2.1;have PB4 := H0.out.2.2.1.below (H4.out.2.2.mono hD);have LB4 := H0.out.2.2.2.1.below (H4.out.2.2.mono hD);have hpn : pb ∉ [mb, tb, wb] := by have := hL_ H0.out.2.1; simp; omega
  have hln : lb ∉ [mb, tb, wb] := by simp; omega
  have l1 : w4.cell? ⟨lb, 1, none⟩ = some (.slice Al pl.calls.length cl) := (cOH hl4 1).trans rfl;have zl := hL_ hl4;have P4 := Lib.hid (And.intro hp4 (And.intro hl4 (And.intro PB4 (And.intro LB4 (And.intro hpn hln)))));clear hp4 hl4 PB4 LB4 hpn hln;obtain ⟨L, hL⟩ : ∃ L, L = pl.calls.length := ⟨_, rfl⟩;have hL60 : L ≤ 60 := by omega
  rw [← hL] at l1;have HLL := Lib.hid hL;clear hL;go_wp2_with fail
  go_loopw [102] (fun q wq => ∃ i : Nat, i ≤ L ∧ q = .int .i64 i ∧ PlSt w4 wq mb tb wb H ((pl.calls.take i).foldl (tlyCall pr) (tly0 H))) (fun q _ => L - (intOf q).toNat)
  case atStart => exact ⟨0, Nat.zero_le _, rfl, H4.out.1⟩
  case round =>
    obtain ⟨i, hi, rfl, hS⟩ := hrel;by_cases hlt : i < L
    · have hil : i < pl.calls.length := by rw [← HLL.out]; exact hlt
      have hget : pl.calls.getD i default ∈ pl.calls := by rw [List.getD_eq_getElem?_getD, List.getElem?_eq_getElem hil]; exact List.getElem_mem hil
      have hc := H0.out.2.2.2.2.2.1 _ hget;have hHH := HH.out;have LBc := P4.out.2.2.2.1.calls;rw [← HLL.out] at LBc;have hbd := tly_bd pr (pl.calls.take i) (tly0 H) 0 (fun j => by rw [tly0_get]; omega) (fun c hcm => by have := H0.out.2.2.2.2.2.1 c (List.mem_of_mem_take hcm); omega);have hhit : ((pl.calls.take i).foldl (tlyCall pr) (tly0 H)).hits.length ≤ 6 * i := by
        have : ∀ (l : List Cal) (t : Tly), (∀ c ∈ l, c ∈ pl.calls) → (l.foldl (tlyCall pr) t).hits.length ≤ t.hits.length + 6 * l.length := by
          intro l;induction l with
          | nil => intro t _; exact Nat.le_refl _
          | cons c l ih =>
            intro t hm;have hc2 := H0.out.2.2.2.2.2.1 c (hm c (by simp));have hb := (H0.out.2.2.2.2.1.btf _ (bt_mem hc2.1 hc2.2.1)).2.2.2;have h6 : (bt pr c.berth).path.length ≤ 6 := by
              have hpl := nodup_range_le hb.1 hb.2;have := H0.out.2.2.2.2.1.nc;omega
            have := ih (tlyCall pr t c) (fun x hx => hm x (by simp [hx]));rw [List.foldl_cons, List.length_cons];have e : (tlyCall pr t c).hits.length = t.hits.length + (bt pr c.berth).path.length := by rw [tlyCall, hits_hit1]
            omega
        have := this (pl.calls.take i) (tly0 H) (fun c hcm => List.mem_of_mem_take hcm);rw [List.length_take] at this;have h0 : (tly0 H).hits.length = 0 := rfl;rw [h0] at this;omega
      refine plOut (D := D) hS P4.out.1 P4.out.2.2.2.2.1 P4.out.2.2.1.bts hD4 LBc HLL.out.symm hlt (by omega) ⟨hc.1, hc.2.1, by omega, by omega, by omega, by omega⟩ (fun b hb => ?_) (by have := H0.out.2.2.2.2.1.nb; omega) (by omega) (by omega) (fun k => by have := hbd k; rw [List.length_take] at this; omega) H4.out.2.1 ?_
      · have hb2 := H0.out.2.2.2.2.1.btf b hb;have := H0.out.2.2.2.2.1.nc;have := nodup_range_le hb2.2.2.2.1 hb2.2.2.2.2;exact ⟨by omega, fun y hy => by have := hb2.2.2.2.2 y hy; omega⟩
      intro _ _ _ _ _ _ _ _ _ _ _ _ _ _ _ _ _ _ _ _ _ _ _ _ _ _ _ _ _ _ _ _ _ _ _ _ _ _ _ _ _ _ _ _ _ _ _ _ _ _ _ _ _ _ _ w' hr;refine ⟨?_, by simp [intOf]; omega⟩
      repeat apply Exists.intro
      refine ⟨?_, rfl⟩;refine ⟨i + 1, by omega, by go_num, ?_⟩;have e0 : (pl.calls.take (i + 1)) = pl.calls.take i ++ [pl.calls.getD i default] := by rw [List.take_succ_eq_append_getElem hil, List.getD_eq_getElem?_getD, List.getElem?_eq_getElem hil]; rfl
      rw [e0, List.foldl_append];exact hr
    · obtain rfl : i = L := by omega
      have hS5 : PlSt w4 wr mb tb wb H (tlyCalls pr H pl.calls) := by rw [HLL.out, List.take_length] at hS; exact hS
      obtain ⟨t5, ht5⟩ : ∃ t, t = tlyCalls pr H pl.calls := ⟨_, rfl⟩;rw [← ht5] at hS5;have bd5 : ∀ j, -1200 ≤ getI t5.tugs j ∧ getI t5.tugs j ≤ 1200 := fun j => by
        have := tly_bd pr pl.calls (tly0 H) 0 (fun j => by rw [tly0_get]; omega) (fun c hcm => by have := H0.out.2.2.2.2.2.1 c hcm; omega) j;rw [ht5, tlyCalls];omega
      obtain ⟨w5, rfl⟩ : ∃ w5, w5 = wr := ⟨_, rfl⟩;have hl5 := (hS5.kp.block _ (hL_ P4.out.2.1) P4.out.2.2.2.2.2).trans P4.out.2.1;have l2 : w5.cell? ⟨lb, 2, none⟩ = some (.slice As pl.swps.length cs) := (cOH hl5 2).trans rfl;have zl5 := hL_ hl5;obtain ⟨M, hM⟩ : ∃ M, M = pl.swps.length := ⟨_, rfl⟩;have hM200 : M ≤ 200 := by omega
      rw [← hM] at l2;have H5 := Lib.hid (And.intro hS5 (And.intro ht5 (And.intro bd5 hM)));clear hS hS5 ht5 bd5 hM hl5 l1 zl;go_wp2_with fail
      go_loopw [159] (fun q wq => ∃ i : Nat, i ≤ M ∧ q = .int .i64 i ∧ PlSt w4 wq mb tb wb H ⟨(pl.swps.take i).foldl addSwp t5.tugs, t5.twice, t5.hits⟩) (fun q _ => M - (intOf q).toNat)
      case atStart => exact ⟨0, Nat.zero_le _, rfl, H5.out.1⟩
      case round =>
        obtain ⟨i, hi, rfl, hS⟩ := hrel;by_cases hlt : i < M
        · have hil : i < pl.swps.length := by rw [← H5.out.2.2.2]; exact hlt
          have hget : pl.swps.getD i default ∈ pl.swps := by rw [List.getD_eq_getElem?_getD, List.getElem?_eq_getElem hil]; exact List.getElem_mem hil
          have hc := H0.out.2.2.2.2.2.2.1 _ hget;have hHH := HH.out;have LBs := P4.out.2.2.2.1.swps;rw [← H5.out.2.2.2] at LBs;have hbd := swp_bd (pl.swps.take i) t5.tugs 1200 H5.out.2.2.1 (fun c hcm => by have := H0.out.2.2.2.2.2.2.1 c (List.mem_of_mem_take hcm); omega);refine plSw (D := D) hS hD4 LBs H5.out.2.2.2.symm hlt (by omega) ⟨by omega, by omega, by omega, by omega⟩ (by omega) (fun k => by have := hbd k; rw [List.length_take] at this; simp only; omega) H4.out.2.1 ?_;intro _ _ _ _ _ _ _ _ _ _ _ _ _ _ w' hr;refine ⟨?_, by simp [intOf]; omega⟩
          repeat apply Exists.intro
          refine ⟨?_, rfl⟩;refine ⟨i + 1, by omega, by go_num, ?_⟩;have e0 : (pl.swps.take (i + 1)) = pl.swps.take i ++ [pl.swps.getD i default] := by rw [List.take_succ_eq_append_getElem hil, List.getD_eq_getElem?_getD, List.getElem?_eq_getElem hil]; rfl
          rw [e0, List.foldl_append];exact hr
        · obtain rfl : i = M := by omega
          obtain ⟨ts, hts⟩ : ∃ ts, ts = pl.swps.foldl addSwp (tlyCalls pr H pl.calls).tugs := ⟨_, rfl⟩;obtain ⟨tw, htw⟩ : ∃ tw, tw = (tlyCalls pr H pl.calls).twice := ⟨_, rfl⟩;have S6 : PlSt w4 wr mb tb wb H ⟨ts, tw, t5.hits⟩ := by
            rw [H5.out.2.2.2, List.take_length, H5.out.2.1] at hS;rw [hts, htw, H5.out.2.1]; exact hS
          obtain ⟨w6, rfl⟩ : ∃ w6, w6 = wr := ⟨_, rfl⟩;have hp6 := (S6.kp.block _ (hL_ P4.out.1) P4.out.2.2.2.2.1).trans P4.out.1;have p2 : w6.cell? ⟨pb, 2, none⟩ = some (.int .i64 pr.tugs) := (cOH hp6 2).trans rfl;have zp := hL_ hp6;have zt := hL_ S6.tg;have zw := hL_ S6.wg;have b6 : Below w.heap.size w w6 := H0.out.1.trans ((H4.out.2.2.trans (S6.kp.below H4.out.2.2.size (by simp; omega))).mono H0.out.1.size);obtain ⟨R, hR⟩ : ∃ R, R = finE pr.tugs ts tw 0 H := ⟨_, rfl⟩;have hRR : finE pr.tugs (pl.swps.foldl addSwp (tlyCalls pr H pl.calls).tugs) (tlyCalls pr H pl.calls).twice 0 H = R := by rw [hR, hts, htw]
          have tc : ∀ k, k < H → w6.cell? ⟨tb, k, none⟩ = some (.int .i64 (ts.getD k 0)) ∧ w6.cell? ⟨wb, k, none⟩ = some (.bool (tw.getD k false)) := fun k hk => ⟨by
            rw [cOH S6.tg, List.getElem?_toArray];exact iG_ (show k < ts.length by have : ts.length = H := S6.tl; omega), by
            rw [cOH S6.wg, List.getElem?_toArray];exact bools_get (show k < tw.length by have : tw.length = H := S6.wl; omega)⟩
          have H6 := Lib.hid (And.intro b6 (And.intro hR (And.intro hRR tc)));clear hS S6 hts htw hp6 b6 hR hRR tc l2 zl5;go_wp2_with fail
          go_loopg [175] (H) (fun g i wr => ∃ k : Nat, g + k = H ∧ i = .int .i64 k ∧ R = finE pr.tugs ts tw k (H - k) ∧ w6 = wr)
          case atStart => exact ⟨0, rfl, rfl, H6.out.2.1, rfl⟩
          case round =>
            obtain ⟨k, hk, rfl, hRk, rfl⟩ := hrel;by_cases hlt : k < H
            · obtain ⟨c0, c1⟩ := H6.out.2.2.2 k hlt;have hfe : finE pr.tugs ts tw k (H - k) = if tw.getD k false then 10 else if pr.tugs < ts.getD k 0 then 9 else finE pr.tugs ts tw (k + 1) (H - (k + 1)) := by
                rw [show H - k = (H - (k + 1)) + 1 from by omega, finE]
              rw [hfe] at hRk;generalize ts.getD k 0 = x at *;generalize tw.getD k false = y at *;have HR := Lib.hid hRk;clear hRk hfe;cases y
              · go_wp2_with fail
                · go_ret;exact ⟨by rw [H6.out.2.2.1, HR.out]; simp [*], H6.out.1⟩
                · go_roundg (gk - 1);case measure => omega
                  case rel => exact ⟨k + 1, by omega, by go_num, by rw [HR.out]; simp; omega, rfl⟩
              · go_wp2_with fail
                go_ret;exact ⟨by rw [H6.out.2.2.1, HR.out]; rfl, H6.out.1⟩
            · obtain rfl : k = H := by omega
              have HR := Lib.hid hRk;clear hRk;go_wp2_with fail
              go_ret;exact ⟨by rw [H6.out.2.2.1, HR.out, Nat.sub_self]; rfl, H6.out.1⟩
theorem plX2 {m : Nat} {s0 s1 s2 s3 s4 s5 s6 s7 s8 s9 s10 s11 s12 s13 s14 s15 s16 s17 s18 s19 s20 s21 s22 s23 s24 s25 s26 s27 s28 s29 s30 s31 s32 s33 s34 s35 s36 s37 s38 s39 s40 s41 s42 s43 s44 s45 s46 s47 s48 s49 s50 s51 s52 s53 s54 s55 s56 s57 s58 s59 s60 s61 s62 s65 s66 s67 s68 s69 s70 s71 s72 s73 s74 s75 s76 s77 s78 s79 s80 s81 s82 s83 s84 s85 s86 s87 s88 s89 s90 s91 s92 s93 s94 s95 s96 s97 s98 s99 s100 s101 s102 s103 s104 s105 s106 s107 s108 s109 s110 s111 s112 s113 s114 s115 s116 s117 s118 s119 s120 s121 s122 s123 s124 s125 s126 s127 s128 s129 s130 s131 s132 s133 s134 s135 s136 s137 s138 s139 s140 s141 s142 s143 s144 s145 s146 s147 s148 s149 s150 s151 s152 s153 s154 s155 s156 s157 s158 s159 s160 s161 s162 s163 s164 s165 s166 s167 s168 s169 s170 s171 s172 s173 s174 s175 s176 s177 s178 s179 s180 s181 s182 s183 s184 s185 s186 s187 s188 s189 s190 : Value} {Q0 : Exit → Act → World → Prop} {Inv : Act → World → Prop} {w : World}
    (hQ : Q0 (.exit 3) ⟨#[s0, s1, s2, s3, s4, s5, s6, s7, s8, s9, s10, s11, s12, s13, s14, s15, s16, s17, s18, s19, s20, s21, s22, s23, s24, s25, s26, s27, s28, s29, s30, s31, s32, s33, s34, s35, s36, s37, s38, s39, s40, s41, s42, s43, s44, s45, s46, s47, s48, s49, s50, s51, s52, s53, s54, s55, s56, s57, s58, s59, s60, s61, s62, .int .i64 m, .int .i64 m, .bool false, s66, s67, s68, s69, s70, s71, s72, s73, s74, s75, s76, s77, s78, s79, s80, s81, s82, s83, s84, s85, s86, s87, s88, s89, s90, s91, s92, s93, s94, s95, s96, s97, s98, s99, s100, s101, s102, s103, s104, s105, s106, s107, s108, s109, s110, s111, s112, s113, s114, s115, s116, s117, s118, s119, s120, s121, s122, s123, s124, s125, s126, s127, s128, s129, s130, s131, s132, s133, s134, s135, s136, s137, s138, s139, s140, s141, s142, s143, s144, s145, s146, s147, s148, s149, s150, s151, s152, s153, s154, s155, s156, s157, s158, s159, s160, s161, s162, s163, s164, s165, s166, s167, s168, s169, s170, s171, s172, s173, s174, s175, s176, s177, s178, s179, s180, s181, s182, s183, s184, s185, s186, s187, s188, s189, s190], []⟩ w) :
    Code.wp Try.prog (loopBody Try.f52 1) (Exit.then Inv Q0) ⟨#[s0, s1, s2, s3, s4, s5, s6, s7, s8, s9, s10, s11, s12, s13, s14, s15, s16, s17, s18, s19, s20, s21, s22, s23, s24, s25, s26, s27, s28, s29, s30, s31, s32, s33, s34, s35, s36, s37, s38, s39, s40, s41, s42, s43, s44, s45, s46, s47, s48, s49, s50, s51, s52, s53, s54, s55, s56, s57, s58, s59, s60, s61, s62, .int .i64 m, .int .i64 m, s65, s66, s67, s68, s69, s70, s71, s72, s73, s74, s75, s76, s77, s78, s79, s80, s81, s82, s83, s84, s85, s86, s87, s88, s89, s90, s91, s92, s93, s94, s95, s96, s97, s98, s99, s100, s101, s102, s103, s104, s105, s106, s107, s108, s109, s110, s111, s112, s113, s114, s115, s116, s117, s118, s119, s120, s121, s122, s123, s124, s125, s126, s127, s128, s129, s130, s131, s132, s133, s134, s135, s136, s137, s138, s139, s140, s141, s142, s143, s144, s145, s146, s147, s148, s149, s150, s151, s152, s153, s154, s155, s156, s157, s158, s159, s160, s161, s162, s163, s164, s165, s166, s167, s168, s169, s170, s171, s172, s173, s174, s175, s176, s177, s178, s179, s180, s181, s182, s183, s184, s185, s186, s187, s188, s189, s190], []⟩ w := by
  conv => arg 2; whnf
  have h : ¬ (m : Int) < (m : Int) := by omega
  have HQ := Lib.hid hQ;clear hQ;go_wp2_with fail
  exact HQ.out
end Go.Proofs.Ythmldeningpjbaa
