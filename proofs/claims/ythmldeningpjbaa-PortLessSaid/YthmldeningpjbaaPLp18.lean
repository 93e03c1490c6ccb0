import Derived.Test.YthmldeningpjbaaPLp17
import Derived.Test.YthmldeningpjbaaPLp15
import Derived.Test.YthmldeningpjbaaPLp16
import Derived.Test.YthmldeningpjbaaProg
import Derived.Test.YthmldeningpjbaaPLp0
import Derived.Laws.StructEq
import Derived.Test.YthmldeningpjbaaPLp1
import Derived.Deep.RegionHeld3
import Derived.Test.YthmldeningpjbaaPLp2
import Derived.Test.YthmldeningpjbaaPLp5
import Derived.Sort.QuietIn
import Derived.Deep.DeepCutAuto
set_option linter.unusedVariables false
set_option linter.unusedSimpArgs false
set_option maxRecDepth 100000
set_option maxHeartbeats 40000000
namespace Go.Proofs.Ythmldeningpjbaa.Pt
open Sp
section
variable {p : Prt} {h : Int}
theorem callsN_skip : ∀ {A : List Cal} {i : Nat} {s : Stt}, (∀ c ∈ A, c.hour ≠ h) → callsN p h A i s = (i + A.length, 0, s)
  | [], _, _, _ => rfl
  | c :: A, i, s, hA => by
    rw [callsN, if_pos (hA c (by simp)), callsN_skip (fun x hx => hA x (by simp [hx])), List.length_cons]
    congr 1; omega
theorem callsN_app : ∀ {A B : List Cal} {i : Nat} {s : Stt}, (callsN p h A i s).2.1 = 0 → callsN p h (A ++ B) i s = callsN p h B (i + A.length) (callsN p h A i s).2.2
  | [], _, _, _, _ => rfl
  | c :: A, B, i, s, h0 => by
    rw [List.cons_append];rw [callsN] at h0 ⊢;rw [callsN];have e : i + (c :: A).length = (i + 1) + A.length := by rw [List.length_cons]; omega
    rw [e];by_cases h1 : c.hour ≠ h
    · rw [if_pos h1] at h0;rw [if_pos h1, if_pos h1];exact callsN_app h0
    · rw [if_neg h1] at h0;rw [if_neg h1, if_neg h1];by_cases h2 : s.busy.getD c.berth.toNat false ≠ c.out
      · rw [if_pos h2] at h0; exact absurd h0 (by show ¬ (9 : Int) = 0; decide)
      · rw [if_neg h2] at h0;rw [if_neg h2, if_neg h2];by_cases h3 : (bt p c.berth).path.any (fun n => decide (c.most < getI s.brash n)) = true
        · rw [if_pos h3] at h0; exact absurd h0 (by show ¬ (8 : Int) = 0; decide)
        · rw [if_neg h3] at h0;rw [if_neg h3, if_neg h3];exact callsN_app h0
theorem callsN_err : ∀ {A B : List Cal} {i : Nat} {s : Stt}, (callsN p h A i s).2.1 ≠ 0 → callsN p h (A ++ B) i s = callsN p h A i s
  | [], _, _, _, h0 => absurd rfl h0
  | c :: A, B, i, s, h0 => by
    rw [List.cons_append];rw [callsN] at h0 ⊢;rw [callsN];by_cases h1 : c.hour ≠ h
    · rw [if_pos h1] at h0;rw [if_pos h1, if_pos h1];exact callsN_err h0
    · rw [if_neg h1] at h0;rw [if_neg h1, if_neg h1];by_cases h2 : s.busy.getD c.berth.toNat false ≠ c.out
      · rw [if_pos h2, if_pos h2]
      · rw [if_neg h2] at h0;rw [if_neg h2, if_neg h2];by_cases h3 : (bt p c.berth).path.any (fun n => decide (c.most < getI s.brash n)) = true
        · rw [if_pos h3, if_pos h3]
        · rw [if_neg h3] at h0;rw [if_neg h3, if_neg h3];exact callsN_err h0
theorem callsN_tail {A B : List Cal} {i : Nat} {s : Stt} (hB : ∀ c ∈ B, c.hour ≠ h) : (callsN p h (A ++ B) i s).2 = (callsN p h A i s).2 := by
  by_cases h0 : (callsN p h A i s).2.1 = 0
  · rw [callsN_app h0, callsN_skip hB];show ((0 : Int), (callsN p h A i s).2.2) = _;rw [← h0]
  · rw [callsN_err h0]
theorem callsN_from : ∀ {A : List Cal} {i : Nat} {s : Stt}, i ≤ (callsN p h A i s).1
  | [], _, _ => Nat.le_refl _
  | c :: A, i, s => by
    rw [callsN];have h1 : ∀ S, i ≤ (callsN p h A (i + 1) S).1 := fun S => Nat.le_trans (Nat.le_succ i) callsN_from
    split
    · exact h1 _
    · split
      · exact Nat.le_refl _
      · split
        · exact Nat.le_refl _
        · exact h1 _
theorem callsN_busy : ∀ {A : List Cal} {i : Nat} {s : Stt}, (callsN p h A i s).2.1 = 0 → (callsN p h A i s).2.2.busy = outsAft (A.filter fun c => decide (c.hour = h)) s.busy
  | [], _, _, _ => rfl
  | c :: A, i, s, h0 => by
    rw [callsN] at h0 ⊢;by_cases h1 : c.hour ≠ h
    · rw [if_pos h1] at h0;rw [if_pos h1, callsN_busy h0, List.filter_cons_of_neg (by simpa using h1)]
    · rw [if_neg h1] at h0;rw [if_neg h1];by_cases h2 : s.busy.getD c.berth.toNat false ≠ c.out
      · rw [if_pos h2] at h0; exact absurd h0 (by show ¬ (9 : Int) = 0; decide)
      · rw [if_neg h2] at h0;rw [if_neg h2];by_cases h3 : (bt p c.berth).path.any (fun n => decide (c.most < getI s.brash n)) = true
        · rw [if_pos h3] at h0; exact absurd h0 (by show ¬ (8 : Int) = 0; decide)
        · rw [if_neg h3] at h0;rw [if_neg h3, callsN_busy h0, List.filter_cons_of_pos (by simpa using Decidable.not_not.1 h1)];rfl
theorem growN_other {n : Int} : ∀ (path : List Int) {b : List Int}, (∀ x ∈ path, x.toNat ≠ n.toNat) → getI (growN p path b) n = getI b n
  | [], _, _ => rfl
  | x :: path, b, hx => by
    show getI (growN p path (grow1 p b x)) n = _;rw [growN_other path (fun y hy => hx y (by simp [hy])), grow1, getI_setI, if_neg (fun e => hx x (by simp) e.1)]
theorem callsN_other {n : Int} : ∀ {A : List Cal} {i : Nat} {s : Stt}, (∀ c ∈ A, c.hour = h → ∀ x ∈ (bt p c.berth).path, x.toNat ≠ n.toNat) → getI (callsN p h A i s).2.2.brash n = getI s.brash n
  | [], _, _, _ => rfl
  | c :: A, i, s, hA => by
    have hA' : ∀ x ∈ A, x.hour = h → ∀ y ∈ (bt p x.berth).path, y.toNat ≠ n.toNat := fun x hx => hA x (by simp [hx]);rw [callsN];split
    · exact callsN_other hA'
    · next h1 =>
      split
      · rfl
      · split
        · rfl
        · rw [callsN_other hA'];exact growN_other _ (hA c (by simp) (Decidable.not_not.1 h1))
end
theorem filter_split {j : Int} : ∀ {L : List Cal}, L.Pairwise (fun a b => a.hour ≤ b.hour) → L.filter (fun c => decide (c.hour < j + 1)) = L.filter (fun c => decide (c.hour < j)) ++ L.filter (fun c => decide (c.hour = j))
  | [], _ => rfl
  | c :: L, hL => by
    obtain ⟨s1, s2⟩ := List.pairwise_cons.1 hL;have ih := filter_split (j := j) s2;by_cases h1 : c.hour < j
    · rw [List.filter_cons_of_pos (by simpa using by omega), List.filter_cons_of_pos (by simpa using h1), List.filter_cons_of_neg (by simpa using by omega), ih, List.cons_append]
    · have e0 : L.filter (fun c => decide (c.hour < j)) = [] := List.filter_eq_nil_iff.2 fun x hx => by have := s1 x hx; simp; omega
      by_cases h2 : c.hour = j
      · rw [List.filter_cons_of_pos (by simpa using by omega), List.filter_cons_of_neg (by simpa using h1), List.filter_cons_of_pos (by simpa using h2), ih, e0]; rfl
      · rw [List.filter_cons_of_neg (by simpa using by omega), List.filter_cons_of_neg (by simpa using h1), List.filter_cons_of_neg (by simpa using h2), ih]
theorem stN_busy {p : Prt} {l : Pln} {s : Stt} (hs : l.calls.Pairwise (fun a b => a.hour ≤ b.hour)) (h0 : ∀ c ∈ l.calls, 0 ≤ c.hour) {N : Nat} (hr : ∀ j, j < N → (hourR p l j (stN p l s j)).2.1 = 0) :
    ∀ k, k ≤ N → (stN p l s k).busy = outsAft (l.calls.filter fun c => decide (c.hour < k)) s.busy
  | 0, _ => by
    have e : (l.calls.filter fun c => decide (c.hour < ((0 : Nat) : Int))) = [] := List.filter_eq_nil_iff.2 fun x hx => by have := h0 x hx; simp; omega
    rw [e]; rfl
  | k + 1, hk => by
    have ih := stN_busy hs h0 hr k (by omega);have e : (((k + 1 : Nat) : Int)) = (k : Int) + 1 := by omega
    rw [e, filter_split hs, outsAft_append, ← ih];exact callsN_busy (hr k (by omega))
theorem runF_first {p : Prt} {l : Pln} {s : Stt} {h : Nat} : ∀ {n k : Nat}, k ≤ h → h < k + n → (∀ j, k ≤ j → j < h → (hourR p l j (stN p l s j)).2.1 = 0) → (hourR p l h (stN p l s h)).2.1 ≠ 0 →
    runF p l s k n = ((hourR p l h (stN p l s h)).1, (hourR p l h (stN p l s h)).2.1)
  | 0, k, h1, h2, _, _ => by omega
  | n + 1, k, h1, h2, h3, h4 => by
    rw [runF];by_cases e : k = h
    · subst e; rw [if_pos h4]
    · rw [if_neg (by rw [h3 k (Nat.le_refl _) (by omega)]; simp)];exact runF_first (by omega) (by omega) (fun j j1 j2 => h3 j (by omega) j2) h4
theorem runF_late {p : Prt} {l : Pln} {s : Stt} {a : Nat} : ∀ {n k : Nat}, (∀ j, k ≤ j → j < k + n → (hourR p l j (stN p l s j)).2.1 = 0 ∨ a < (hourR p l j (stN p l s j)).1) → (runF p l s k n).2 = 0 ∨ a < (runF p l s k n).1
  | 0, k, _ => .inl rfl
  | n + 1, k, h => by
    rw [runF];by_cases e : (hourR p l k (stN p l s k)).2.1 ≠ 0
    · rw [if_pos e];rcases h k (Nat.le_refl _) (by omega) with g | g
      · exact absurd g e
      · exact .inr g
    · rw [if_neg e];exact runF_late fun j j1 j2 => h j (by omega) (by omega)
def outB (k : Int) (b : Bool) (c : Cal) : Bool := if c.berth = k then !c.out else b
theorem outB_get {k : Int} (k0 : 0 ≤ k) : ∀ {L : List Cal} {b : List Bool}, (∀ c ∈ L, 0 ≤ c.berth) → k.toNat < b.length → (outsAft L b).getD k.toNat false = L.foldl (outB k) (b.getD k.toNat false)
  | [], _, _, _ => rfl
  | c :: L, b, hc, hl => by
    rw [outsAft, outB_get k0 (fun x hx => hc x (by simp [hx])) (by simpa using hl), List.foldl_cons]
    congr 1
    have c0 := hc c (by simp);rw [set_len];unfold outB;by_cases e : c.berth = k
    · rw [if_pos e, if_pos ⟨by rw [e], by rw [e]; exact hl⟩]
    · rw [if_neg e, if_neg (fun g => e (by omega))]
theorem less_run {p : Prt} {l : Pln} (hp : MdP p) (hl : MdL p l) {b : List Int} (hlen : b.length = p.chs.length) (hb : ∀ x ∈ b, 0 ≤ x ∧ x < 1000000) {h : Nat} {a : Nat} (H : AtH l h a) (hh : (h : Int) < l.hours) {k : Int} (k0 : 0 ≤ k) (k1 : k < p.bts.length) {m t : Int}
    (hr : runE p (st0 p b) l = 0) (hc : checkL p (insC l a ⟨h, k, (l.calls.take a).foldl (outB k) false, 10, m, t⟩) = 0) (hsh : shutL p h (bt p k).path l.calls = false) :
    (runE p (st0 p b) (insC l a ⟨h, k, (l.calls.take a).foldl (outB k) false, 10, m, t⟩) = 0 ∨ (a : Int) < runI p (st0 p b) (insC l a ⟨h, k, (l.calls.take a).foldl (outB k) false, 10, m, t⟩)) ↔
      (bt p k).path.all (fun x => decide (getI (swpN p h l.swps (stN p l (st0 p b) h).brash) x ≤ m)) = true := by
  obtain ⟨u, hu⟩ : ∃ u, u = (l.calls.take a).foldl (outB k) false := ⟨_, rfl⟩;rw [← hu] at hc ⊢;obtain ⟨s, hs⟩ : ∃ s, s = st0 p b := ⟨_, rfl⟩;have hstart : ∀ L, checkL p L = 0 → startE p (st0 p b) L = 0 := fun L hL => by
    unfold startE;rw [if_neg (by simp [hL]), if_neg];rintro (g | g | g)
    · exact g hlen
    · exact g (by simp [st0, noB])
    · obtain ⟨x, x1, x2⟩ := List.any_eq_true.1 g;have := hb x x1;have w : within x 0 1000000 = true := by rw [within_iff]; omega
      rw [w] at x2; cases x2
  have hE : ∀ L, checkL p L = 0 → runE p (st0 p b) L = (runR p L (st0 p b)).2 ∧ runI p (st0 p b) L = (runR p L (st0 p b)).1 := fun L hL => by
    unfold runE runI; rw [if_neg (by simp [hstart L hL]), if_neg (by simp [hstart L hL])]; exact ⟨rfl, rfl⟩
  obtain ⟨e1, e2⟩ := hE _ hc;rw [e1, e2];have hr2 : (runR p l (st0 p b)).2 = 0 := by rw [← (hE l (hl.checkL hp)).1]; exact hr
  rw [← hs] at hr2 ⊢;obtain ⟨x, hx⟩ : ∃ x, x = insC l a ⟨h, k, u, 10, m, t⟩ := ⟨_, rfl⟩;rw [← hx];have xh : x.hours = l.hours := by rw [hx]; rfl
  have xs : x.swps = l.swps := by rw [hx]; rfl
  have xc : x.calls = l.calls.take a ++ ⟨h, k, u, 10, m, t⟩ :: l.calls.drop a := by rw [hx]; rfl
  have ok : ∀ j, j < l.hours.toNat → (hourR p l j (stN p l s j)).2.1 = 0 := fun j hj => runF_all.1 hr2 j (by omega) (by omega);have ahead : ∀ (j : Nat), j < h → ∀ S, (hourR p x j S).2 = (hourR p l j S).2 := fun j hj S => by
    unfold hourR;rw [xs, xc];have d : ∀ c ∈ l.calls.drop a, c.hour ≠ (j : Int) := fun c hcc => by have := H.post c hcc; omega
    rw [callsN_tail (fun c hcc => by
      rcases List.mem_cons.1 hcc with rfl | g
      · simp only; omega
      · exact d c g)]
    conv => rhs; rw [← List.take_append_drop a l.calls, callsN_tail d]
  have st : ∀ j, j ≤ h → stN p x s j = stN p l s j := fun j => by
    induction j with
    | zero => intro _; rfl
    | succ j ih =>
      intro hj;show hourS p x j (stN p x s j) = hourS p l j (stN p l s j);unfold hourS;rw [ih (by omega), ahead j (by omega)]
  have ok1 : ∀ j, j < h → (hourR p x j (stN p x s j)).2.1 = 0 := fun j hj => by rw [ahead j hj, st j (by omega)]; exact ok j (by omega)
  obtain ⟨S, hS⟩ : ∃ S : Stt, S = ⟨swpN p h l.swps (stN p l s h).brash, (stN p l s h).busy⟩ := ⟨_, rfl⟩;have dr : ∀ c ∈ l.calls.drop a, c.hour ≠ (h : Int) := fun c hcc => by have := H.post c hcc; omega
  have okt : (callsN p h (l.calls.take a) 0 S).2.1 = 0 := by
    have g := ok h (by omega);unfold hourR at g;rw [← hS, ← List.take_append_drop a l.calls, callsN_tail dr] at g;exact g
  have ex : hourR p x h (stN p x s h) = callsN p h (⟨h, k, u, 10, m, t⟩ :: l.calls.drop a) a (callsN p h (l.calls.take a) 0 S).2.2 := by
    unfold hourR;rw [xs, xc, st h (Nat.le_refl _), ← hS, callsN_app okt, List.length_take, Nat.min_eq_left H.le, Nat.zero_add]
  have hbusy : (callsN p h (l.calls.take a) 0 S).2.2.busy.getD k.toNat false = u := by
    have srt : l.calls.Pairwise (fun a b => a.hour ≤ b.hour) := hl.srt.imp fun g => by omega
    rw [callsN_busy okt, hS, stN_busy srt (fun c hcc => by have := hl.ca c hcc; omega) ok h (by omega), ← outsAft_append];have e3 : (l.calls.filter fun c => decide (c.hour < (h : Int))) ++ ((l.calls.take a).filter fun c => decide (c.hour = (h : Int))) = l.calls.take a := by
      have f1 : ∀ q : Cal → Bool, (∀ c ∈ l.calls.drop a, q c = false) → l.calls.filter q = (l.calls.take a).filter q := fun q hq => by
        conv => lhs; rw [← List.take_append_drop a l.calls, List.filter_append]
        have f2 : (l.calls.drop a).filter q = [] := List.filter_eq_nil_iff.2 (fun c hcc => by rw [hq c hcc]; simp);rw [f2, List.append_nil]
      rw [f1 _ (fun c hcc => by have := H.post c hcc; simp; omega)];rw [← filter_split (srt.sublist (List.take_sublist a l.calls))];exact List.filter_eq_self.2 fun c hcc => by have := H.pre c hcc; simp; omega
    rw [e3, hs];have e4 := outB_get k0 (L := l.calls.take a) (b := noB p) (fun c hcc => by have := hl.ca c (List.mem_of_mem_take hcc); omega) (by simp [noB]; omega);show (outsAft (l.calls.take a) (noB p)).getD k.toNat false = u;rw [e4, hu]
    congr 1
    simp [noB, List.getD_eq_getElem?_getD, List.getElem?_replicate];split <;> rfl
  have hbr : ∀ n ∈ (bt p k).path, getI (callsN p h (l.calls.take a) 0 S).2.2.brash n = getI S.brash n := fun n hn => by
    refine callsN_other fun c hcc ch y hy => ?_;have hcl := List.mem_of_mem_take hcc;obtain ⟨c1, c2, c3, c4, _⟩ := hl.ca c hcl;have y0 := (hp.btf _ (bt_mem c3 c4)).2.2.ok.2.2.1 y hy;have n0 := (hp.btf _ (bt_mem k0 k1)).2.2.ok.2.2.1 n hn;intro e;have e5 : y = n := by omega
    have : shutL p h (bt p k).path l.calls = true := shut_iff.2 ⟨c, hcl, ch, y, hy, e5 ▸ hn⟩;rw [hsh] at this; cases this
  have eany : (bt p k).path.any (fun n => decide (m < getI (callsN p h (l.calls.take a) 0 S).2.2.brash n)) = !(bt p k).path.all (fun x => decide (getI (swpN p h l.swps (stN p l s h).brash) x ≤ m)) := by
    rw [List.not_all_eq_any_not, Bool.eq_iff_iff, List.any_eq_true, List.any_eq_true];constructor
    · rintro ⟨n, n1, n2⟩;refine ⟨n, n1, ?_⟩;rw [hbr n n1, hS] at n2;have := of_decide_eq_true n2;simp only at this;simpa using this
    · rintro ⟨n, n1, n2⟩;refine ⟨n, n1, ?_⟩;rw [hbr n n1, hS];simpa using n2
  have eh : hourR p x h (stN p x s h) = if (bt p k).path.all (fun x => decide (getI (swpN p h l.swps (stN p l s h).brash) x ≤ m)) = true
      then (a + 1 + (l.calls.drop a).length, 0, ⟨growN p (bt p k).path (callsN p h (l.calls.take a) 0 S).2.2.brash, (callsN p h (l.calls.take a) 0 S).2.2.busy.set k.toNat (!u)⟩) else (a, 8, (callsN p h (l.calls.take a) 0 S).2.2) := by
    rw [ex, callsN, if_neg (by simp), if_neg (by simp only; rw [hbusy]; simp)];simp only;rw [eany];cases q : (bt p k).path.all (fun x => decide (getI (swpN p h l.swps (stN p l s h).brash) x ≤ m)) with
    | true => rw [if_neg (by simp), if_pos rfl, callsN_skip dr]
    | false => rw [if_pos (by simp), if_neg (by simp)]
  have hR : runR p x s = runF p x s 0 l.hours.toNat := by unfold runR; rw [xh]
  rw [hR];by_cases q : (bt p k).path.all (fun x => decide (getI (swpN p h l.swps (stN p l s h).brash) x ≤ m)) = true
  · refine iff_of_true ?_ q;have g := runF_late (p := p) (l := x) (s := s) (a := a) (n := l.hours.toNat) (k := 0) (fun j _ hj => by
      rcases Nat.lt_trichotomy j h with g | rfl | g
      · exact .inl (ok1 j g)
      · left; rw [eh, if_pos q]
      · right;unfold hourR;have e6 : x.calls = (l.calls.take a ++ [⟨h, k, u, 10, m, t⟩]) ++ l.calls.drop a := by rw [xc]; simp
        rw [e6, callsN_app (by
          rw [callsN_skip];intro c hcc;rcases List.mem_append.1 hcc with g2 | g2
          · have := H.pre c g2; omega
          · simp only [List.mem_singleton] at g2; subst g2; simp only; omega)]
        refine Nat.lt_of_lt_of_le ?_ callsN_from
        simp [Nat.min_eq_left H.le])
    rcases g with g | g
    · exact .inl g
    · exact .inr (by omega)
  · refine iff_of_false ?_ q;have e7 := runF_first (p := p) (l := x) (s := s) (h := h) (n := l.hours.toNat) (k := 0) (Nat.zero_le _) (by omega) (fun j _ hj => ok1 j hj) (by rw [eh, if_neg q]; simp);rw [e7, eh, if_neg q];rintro (g | g)
    · exact absurd g (by simp)
    · simp only at g; omega
end Go.Proofs.Ythmldeningpjbaa.Pt
namespace Go.Proofs.Ythmldeningpjbaa.Pt
open Sp
theorem less_runE {p : Prt} {s : Stt} {l : Pln} (hs : startE p s l = 0) : runE p s l = (runR p l s).2 := by unfold runE; rw [if_neg (by simp [hs])]
theorem less_slotE {p : Prt} {l : Pln} (hp : MdP p) (hl : MdL p l) {b : List Int} (hlen : b.length = p.chs.length) (hb : ∀ x ∈ b, 0 ≤ x ∧ x < 200) {k : Int} (k0 : 0 ≤ k) (k1 : k < p.bts.length) {m t : Int} (hm : 0 ≤ m ∧ m ≤ 1000000) (ht : 0 ≤ t ∧ t ≤ 20) (hr : runE p (st0 p b) l = 0) : slotE p (st0 p b) l k m t = 0 := by
  have hs := st0_start hp hl (B := 200) (by decide) hlen hb;rw [less_runE hs] at hr;unfold slotE;rw [if_neg (by simp [hs]), if_neg (by
    have w1 : within k 0 ((p.bts.length : Int) - 1) = true := within_iff.2 (by omega);have w2 : within m 0 1000000 = true := within_iff.2 hm;have w3 : within t 0 20 = true := within_iff.2 ht;rw [w1, w2, w3];decide)]
  exact hr
theorem less_can {p : Prt} {l : Pln} (hp : MdP p) (hl : MdL p l) {b : List Int} (hlen : b.length = p.chs.length) (hb : ∀ x ∈ b, 0 ≤ x ∧ x < 200) {h a : Nat} (H : AtH l h a) (hh : (h : Int) < l.hours) {k : Int} (k0 : 0 ≤ k) (k1 : k < p.bts.length) {m t : Int} (hm : 0 ≤ m ∧ m ≤ 1000000) (ht : 0 ≤ t ∧ t ≤ 20)
    (hr : runE p (st0 p b) l = 0) {X : Pln} (hX : X = insC l a ⟨h, k, (l.calls.take a).foldl (outB k) false, 10, m, t⟩) :
    inSp (slotV p (st0 p b) l k m t) h = (decide (checkL p X = 0) && (decide (runE p (st0 p b) X = 0) || decide ((a : Int) < runI p (st0 p b) X))) := by
  have hE := less_slotE hp hl hlen hb k0 k1 hm ht hr;have hV : slotV p (st0 p b) l k m t = slotS (slotOk p (st0 p b) l (bt p k).path m t) l.hours.toNat := by unfold slotV; rw [if_pos hE]
  rw [hV, (slot_in _ h _).1, decide_eq_true (show h < l.hours.toNat by omega), Bool.true_and];have hc := less_check hp hl H (by omega) hh k0 k1 hm ht ((l.calls.take a).foldl (outB k) false);rw [← hX] at hc;unfold slotOk;rw [callT_tgC, swpT_tgS];by_cases c0 : checkL p X = 0
  · obtain ⟨q1, q2⟩ := hc.1 c0;rw [decide_eq_true c0, Bool.true_and, q1, decide_eq_true q2, Bool.not_false, Bool.and_true, Bool.and_true];have hrn := less_run hp hl hlen (fun x hx => by have := hb x hx; omega) H hh k0 k1 (m := m) (t := t) hr (by rw [← hX]; exact c0) q1;rw [← hX] at hrn;rw [Bool.eq_iff_iff, ← hrn];simp
  · rw [decide_eq_false c0, Bool.false_and];rw [hc] at c0;by_cases q1 : shutL p h (bt p k).path l.calls = false
    · rw [decide_eq_false (fun q => c0 ⟨q1, q⟩), Bool.and_false]
    · rw [(by simpa using q1 : shutL p h (bt p k).path l.calls = true)]; simp
def lessQ (p : Prt) : Prt := ⟨p.chs, p.bts, p.tugs + 2⟩
def lessM (l : Pln) (x : Swp) : Pln := ⟨l.hours, l.calls, l.swps ++ [x]⟩
theorem less_mor {p : Prt} {l : Pln} (hp : MdP p) {x : Swp} (hx : 0 ≤ x.channel ∧ x.channel < p.chs.length ∧ 1 ≤ x.tugs ∧ x.tugs ≤ 2) : Mor p (lessQ p) l (lessM l x) := by
  have hch : ∀ n : Int, 0 ≤ (ch p n).grow ∧ 0 ≤ (ch p n).frost ∧ 0 ≤ (ch p n).clear := fun n => by
    unfold Pt.ch;rw [List.getD_eq_getElem?_getD];cases e : p.chs[n.toNat]? with
    | none => decide
    | some c => have := hp.chf c (List.mem_of_getElem? e); simp only [Option.getD_some]; omega
  exact ⟨rfl, rfl, rfl, rfl, ⟨[x], rfl, fun y hy => by rw [List.mem_singleton.1 hy]; exact Int.mul_nonneg (by omega) (hch _).2.2⟩, fun n => (hch n).1, fun n => (hch n).2.1⟩
theorem less_mor0 {p : Prt} {l : Pln} (hp : MdP p) : Mor p p l l := by
  have hch : ∀ n : Int, 0 ≤ (ch p n).grow ∧ 0 ≤ (ch p n).frost := fun n => by
    unfold Pt.ch;rw [List.getD_eq_getElem?_getD];cases e : p.chs[n.toNat]? with
    | none => decide
    | some c => have := hp.chf c (List.mem_of_getElem? e); simp only [Option.getD_some]; omega
  exact ⟨rfl, rfl, rfl, rfl, ⟨[], by simp, fun y hy => by cases hy⟩, fun n => (hch n).1, fun n => (hch n).2⟩
theorem less_checkM {p : Prt} {l : Pln} (hp : MdP p) (hl : MdL p l) {x : Swp} (hx : 0 ≤ x.channel ∧ x.channel < p.chs.length ∧ 1 ≤ x.tugs ∧ x.tugs ≤ 2) (hh : 0 ≤ x.hour ∧ x.hour < l.hours) : checkL (lessQ p) (lessM l x) = 0 := by
  have h0 := checkP_md hp;have ht := hp.tg;have h1 : checkP (lessQ p) = 0 := by
    unfold checkP at h0 ⊢;by_cases a : (within p.chs.length 1 6 && within p.bts.length 1 4) = false
    · rw [if_pos a] at h0; cases h0
    · rw [if_neg a] at h0;rw [if_neg (show ¬ (within (lessQ p).chs.length 1 6 && within (lessQ p).bts.length 1 4) = false from a), if_neg (show ¬ within (lessQ p).tugs 0 20 = false by simp only [Bool.not_eq_false, within_iff, lessQ]; omega)];rw [if_neg (show ¬ within p.tugs 0 20 = false by simp only [Bool.not_eq_false, within_iff]; omega)] at h0;exact h0
  have h2 : within l.hours 1 100 = true := by rw [within_iff]; have := hl.h; omega
  have h3 : callsE (lessQ p) l.hours 0 l.calls = 0 := callsE_of (fun c hc => by
    obtain ⟨c1, c2, c3, c4, c5, c6, c7, c8, c9, c10⟩ := hl.ca c hc;refine ⟨?_, c1⟩;have hd := (hp.btf _ (bt_mem c3 c4)).1;have e : (bt (lessQ p) c.berth).depth = (bt p c.berth).depth := rfl;have e2 : (lessQ p).bts.length = p.bts.length := rfl;unfold callE;rw [e, e2, if_neg (by simp only [Bool.not_eq_false, Bool.and_eq_true, within_iff]; omega), if_neg (by simp only [Bool.not_eq_false, within_iff]; omega), if_neg (by simp only [Bool.not_eq_false, within_iff]; omega), if_neg (by omega)]) (hl.srt.imp fun h => by omega)
  have h4 : swpsE (lessQ p) l.hours (l.swps ++ [x]) = 0 := swpsE_of fun s hs => by
    have e2 : (lessQ p).chs.length = p.chs.length := rfl;have : 0 ≤ s.channel ∧ s.channel < p.chs.length ∧ 1 ≤ s.tugs ∧ s.tugs ≤ 6 ∧ 0 ≤ s.hour ∧ s.hour < l.hours := by
      rcases List.mem_append.1 hs with e | e
      · exact hl.sw s e
      · rw [List.mem_singleton.1 e]; omega
    unfold swpE;rw [e2, if_neg (by simp only [Bool.not_eq_false, Bool.and_eq_true, within_iff]; omega), if_neg (by simp only [Bool.not_eq_false, within_iff]; omega)]
  have n1 := hl.n1;have n2 := hl.n2;have hh' := hl.h;unfold Pt.checkL;rw [if_neg (by simp [h1]), if_neg (show ¬ (60 < (lessM l x).calls.length ∨ 200 < (lessM l x).swps.length) by simp [lessM]; omega), if_neg (show ¬ within (lessM l x).hours 1 100 = false by simp [lessM, h2]), if_neg (show ¬ callsE (lessQ p) (lessM l x).hours 0 (lessM l x).calls ≠ 0 by simp [lessM, h3]), if_neg (show ¬ swpsE (lessQ p) (lessM l x).hours (lessM l x).swps ≠ 0 by simp [lessM, h4])];show finE (p.tugs + 2) ((l.swps ++ [x]).foldl addSwp (tlyCalls p l.hours.toNat l.calls).tugs) (tlyCalls p l.hours.toNat l.calls).twice 0 l.hours.toNat = 0;have htl : (tly0 l.hours.toNat).tugs.length = l.hours.toNat := by simp [tly0]
  refine finE_ok fun j _ hj => ⟨?_, ?_⟩
  · refine tly_twice (fun c hc => ?_) hl.srt (fun c hc x hx => ?_) (fun k => ?_) j
    · obtain ⟨c1, c2, c3, c4, _⟩ := hl.ca c hc;exact (hp.btf _ (bt_mem c3 c4)).2.2.ok.2.1
    · simp [tly0] at hx
    · simp only [tly0, List.getD_eq_getElem?_getD, List.getElem?_replicate]; split <;> rfl
  · have g1 := tly_get (p := p) (h := j) (by omega) (l := l.calls) (t := tly0 l.hours.toNat) (fun c hc => by have := hl.ca c hc; rw [htl]; omega);have g2 := swp_get (h := j) (by omega) (l := l.swps ++ [x]) (t := (tlyCalls p l.hours.toNat l.calls).tugs) (fun s hs => by
      unfold tlyCalls;rw [g1.2, htl];rcases List.mem_append.1 hs with e | e
      · have := hl.sw s e; omega
      · rw [List.mem_singleton.1 e]; omega)
    have g3 := hl.tg j;have e : ((l.swps ++ [x]).foldl addSwp (tlyCalls p l.hours.toNat l.calls).tugs).getD j 0 = getI ((l.swps ++ [x]).foldl addSwp (tlyCalls p l.hours.toNat l.calls).tugs) j := by unfold getI; simp
    rw [e, g2, tgS_snoc];unfold tlyCalls;rw [g1.1, tly0_get];split <;> omega
theorem less_trace {p q : Prt} {l m : Pln} (M : Mor p q l m) (hq : checkL q m = 0) {b b' : List Int} (hlen : b.length = p.chs.length) (hb : ∀ x ∈ b, 0 ≤ x ∧ x < 200) (hb' : ∀ x ∈ b', 0 ≤ x ∧ x < 200) (hle : LeB b' b) (hs : startE p (st0 p b) l = 0) (hr : runE p (st0 p b) l = 0) :
    runE q (st0 q b') m = 0 ∧ ∀ j : Nat, (j : Int) ≤ l.hours → LeB (stN q m (st0 q b') j).brash (stN p l (st0 p b) j).brash := by
  have hq0 : startE q (st0 q b') m = 0 := startE_3 hq (by show b'.length = q.chs.length; rw [M.chs, hle.1, hlen]) (by simp [st0, noB]) (by
    rw [List.any_eq_false];intro x hx;have := hb' x hx;simp [within]; omega)
  rw [less_runE hs] at hr;have hr' := (runF_all (n := l.hours.toNat) (k := 0)).1 hr;have K := mor_run M (s := st0 p b) (t := st0 q b') hle (by show noB q = noB p; simp [noB, M.bts]) (ge0_of fun x hx => (hb' x hx).1) (N := l.hours.toNat) (fun j hj => hr' j (Nat.zero_le _) (by omega));refine ⟨?_, fun j hj => (K j (by omega)).1⟩;rw [less_runE hq0];refine (runF_all (n := m.hours.toNat) (k := 0)).2 fun j _ hj => (K l.hours.toNat (Nat.le_refl _)).2.2.2 j ?_;rw [M.hrs] at hj; omega
theorem less_row {p : Prt} {l : Pln} {s : Stt} (hr : runE p s l = 0) {j : Nat} (hj : j ≤ l.hours.toNat) : (traceV p s l)[j]? = some (stN p l s j).brash := by
  unfold traceV;rw [if_pos hr];unfold traceS;rw [List.getElem?_map, List.getElem?_range (by omega)]; rfl
theorem less_rows {p : Prt} {l : Pln} {s : Stt} (hr : runE p s l = 0) : (traceV p s l).length = l.hours.toNat + 1 := by
  unfold traceV;rw [if_pos hr]; simp [traceS]
theorem atH_of {l : Pln} {h : Int} {a : Nat} (hs : l.calls.Pairwise (fun a b => a.hour < b.hour)) (ha : a ≤ l.calls.length) (hp : ∀ c ∈ l.calls.take a, c.hour ≤ h) (hn : ∀ c, l.calls[a]? = some c → h < c.hour) : AtH l h a := by
  refine ⟨ha, hp, fun c hc => ?_⟩;cases e : l.calls.drop a with
  | nil => rw [e] at hc; cases hc
  | cons x r =>
    have hx : l.calls[a]? = some x := by
      have := congrArg (·[0]?) e;simpa [List.getElem?_drop] using this
    have h1 := hn x hx;have hp2 := hs.sublist (List.drop_sublist a l.calls);rw [e] at hp2 hc;rcases List.mem_cons.1 hc with rfl | g
    · exact h1
    · have := (List.pairwise_cons.1 hp2).1 c g; omega
end Go.Proofs.Ythmldeningpjbaa.Pt













namespace Go.Proofs.Ythmldeningpjbaa
open Go Go.RowKit Sp
theorem below_drewN {B : Nat} {w w' : World} (h : Below B w w') (n : Nat) : Below B w (w'.drewN n) := ⟨h.os, h.tape, h.output, h.size, h.block⟩
def spc (s : Int × Int) : List Value := [.int .i64 s.1, .int .i64 s.2]
def spcs (l : List (Int × Int)) : List Value := l.flatMap spc
theorem spcs_length (l : List (Int × Int)) : (spcs l).length = l.length * 2 := by
  induction l with
  | nil => rfl
  | cons s l ih => simp only [spcs, List.flatMap_cons, List.length_append, List.length_cons] at ih ⊢; rw [ih]; simp [spc]; omega
theorem spcs_append (l m : List (Int × Int)) : spcs (l ++ m) = spcs l ++ spcs m := by simp [spcs]
theorem spcs_get {l : List (Int × Int)} {k : Nat} (hk : k < l.length) : (spcs l)[k*2]? = some (.int .i64 l[k].1) ∧ (spcs l)[k*2+1]? = some (.int .i64 l[k].2) := by
  induction l generalizing k with
  | nil => simp at hk
  | cons s l ih =>
    cases k with
    | zero => simp [spcs, spc]
    | succ k =>
      have h4 : ∀ j, (spcs (s :: l))[2 + j]? = (spcs l)[j]? := fun j => by
        simp only [spcs, List.flatMap_cons, spc];rw [List.getElem?_append_right (by simp)];simp
      have e : ∀ j, (k+1)*2 + j = 2 + (k*2 + j) := fun j => by omega
      have e0 : (k+1)*2 = 2 + k*2 := by omega
      have hk' : k < l.length := by simpa using hk
      rw [e, e0, h4, h4];simpa using ih hk'
def joinS (L : List (Int × Int)) (day : Int) : List (Int × Int) :=
  match L.getLast? with
  | some s => if s.2 = day - 1 then L.dropLast ++ [(s.1, day)] else L ++ [(day, day)]
  | none => [(day, day)]
def SpansIn (w : World) (cb : Nat) (L : List (Int × Int)) (fp : List Nat) : Prop :=
  ∃ A c, w.heap[cb]? = some (.cells #[.slice A L.length c] 119 (0, 0)) ∧ OwnS w 129 2 A L.length c (spcs L) fp ∧ cb ∉ fp
theorem info_span : (Try.prog.info? 129).map (fun i => (i.zero, i.size, i.bytes)) = some (some (.agg #[.int .i64 0, .int .i64 0]), 2, 16) := by kernel_rfl
def JoinPost (w : World) (cb : Nat) (L : List (Int × Int)) (day : Int) (fp : List Nat) (e : Ending) (w' : World) : Prop :=
  e = .returned (.tuple #[]) ∧ ∃ fp', SpansIn w' cb (joinS L day) fp' ∧ (∀ g ∈ fp', g ∈ fp ∨ w.heap.size ≤ g) ∧ Keep (cb :: fp) w w'
end Go.Proofs.Ythmldeningpjbaa
namespace Go.Proofs.Ythmldeningpjbaa
open Go Go.RowKit Sp Pt
theorem less1_any (lo hi h : Int) (hb : Nat) (w : World) (hh : w.heap[hb]? = some (.cells #[.int .i64 h] 3 (0, 0))) :
    Calls Try.prog 61 #[.agg #[.int .i64 lo, .int .i64 hi], .pointer (some ⟨hb, 0, none⟩)] w fun e w' => e = .returned (.bool (decide (lo ≤ h) && decide (h ≤ hi))) ∧ Below w.heap.size w w' := by
  have b0 : Below w.heap.size w (w.alloc (.cells #[.int .i64 lo, .int .i64 hi] 129)) := (Below.refl _ _).alloc (Nat.le_refl _) _;have hlt := hL_ hh;have c0 : (w.alloc (.cells #[.int .i64 lo, .int .i64 hi] 129)).cell? ⟨hb, 0, none⟩ = some (.int .i64 h) := (b0.cell hlt).trans ((cOH hh 0).trans rfl);have HB := Lib.hid b0;clear b0;by_cases h1 : lo ≤ h
  · have d1 : decide (lo ≤ h) = true := decide_eq_true h1
    go_enter Try.func61, Try.ntmps61
    go_wp2_with fail
    go_ret;exact ⟨by simp [d1], HB.out⟩
  · have d1 : decide (lo ≤ h) = false := decide_eq_false h1
    go_enter Try.func61, Try.ntmps61
    go_wp2_with fail
    go_ret;exact ⟨by simp [d1], HB.out⟩
theorem idxSpan_any (h : Int) (hb : Nat) (A : Option Addr) (c : Nat) (l : List (Int × Int)) (w : World) (hr : Rd w 2 A l.length (spcs l)) (hm : l.length ≤ 1000) (hh : w.heap[hb]? = some (.cells #[.int .i64 h] 3 (0, 0))) :
    Calls Try.prog 113 #[.slice A l.length c, .func (.func 61) #[] #[.pointer (some ⟨hb, 0, none⟩)]] w fun e w' => ∃ r : Int, e = .returned (.int .i64 r) ∧ decide (0 ≤ r) = inSp l h ∧ Below w.heap.size w w' := by
  have HH := Lib.hid (And.intro hr hh);clear hr hh
  go_enter Try.func113, Try.ntmps113
  go_wp2_with fail
  go_loopg [8] (l.length) (fun g i wr => ∃ k : Nat, g + k = l.length ∧ i = .int .i64 k ∧ inSp (l.take k) h = false ∧ Below w.heap.size w wr)
  case atStart => exact ⟨0, rfl, rfl, by simp [inSp], Below.refl _ _⟩
  case round =>
    obtain ⟨k, hk, rfl, hbb, hbw⟩ := hrel;have HB := Lib.hid (And.intro hbb hbw);clear hbb hbw;by_cases hlt : k < l.length
    · obtain ⟨b, off, rfl, hbl, hc⟩ := (HH.out.1.below HB.out.2).2 (by omega);obtain ⟨g1, g2⟩ := spcs_get hlt;have c0 := hc (k * 2) _ g1;have c1 : wr.cell? ⟨b, off + k * 2 + 1, none⟩ = _ := hc (k * 2 + 1) _ g2;obtain ⟨x, hx⟩ : ∃ x, x = l[k] := ⟨_, rfl⟩;rw [← hx] at c0 c1;have hx' : l[k] = x := hx.symm;have hhb : wr.heap[hb]? = some (.cells #[.int .i64 h] 3 (0, 0)) := (HB.out.2.block _ (hL_ HH.out.2)).trans HH.out.2;have H := less1_any x.1 x.2 h hb wr hhb;obtain ⟨z, hz⟩ : ∃ z, z = (decide (x.1 ≤ h) && decide (h ≤ x.2)) := ⟨_, rfl⟩;rw [← hz] at H;have hs : inSp (l.take (k + 1)) h = z := by rw [List.take_succ_eq_append_getElem hlt, inSp, List.any_append]; have := HB.out.1; unfold inSp at this; rw [this, hx', hz]; simp
      have HC := Lib.hid (And.intro H hs);clear H hs hz hx' hx hc g1 g2 hhb;cases z
      · go_wp2_with (go_at_call 61; refine HC.out.1.mono ?_; rintro e w' ⟨rfl, hb2⟩; have HD := Lib.hid (HB.out.2.trans (hb2.mono HB.out.2.size)); clear hb2)
        go_roundg (gk - 1);case measure => omega
        case rel => exact ⟨k + 1, by omega, by go_num, HC.out.2, HD.out⟩
      · go_wp2_with (go_at_call 61; refine HC.out.1.mono ?_; rintro e w' ⟨rfl, hb2⟩; have HD := Lib.hid (HB.out.2.trans (hb2.mono HB.out.2.size)); clear hb2)
        go_ret;refine ⟨k, rfl, ?_, HD.out⟩;have h1 : inSp l h = true := by
          obtain ⟨y, hy, hfy⟩ := List.any_eq_true.1 HC.out.2;exact List.any_eq_true.2 ⟨y, List.mem_of_mem_take hy, hfy⟩
        rw [h1]; simp
    · obtain rfl : k = l.length := by omega
      go_wp2_with fail
      go_ret;exact ⟨-1, rfl, by have := HB.out.1; rw [List.take_length] at this; rw [this]; simp, HB.out.2⟩
theorem anySpan_any (h : Int) (hb : Nat) (A : Option Addr) (c : Nat) (l : List (Int × Int)) (w : World) (hr : Rd w 2 A l.length (spcs l)) (hm : l.length ≤ 1000) (hh : w.heap[hb]? = some (.cells #[.int .i64 h] 3 (0, 0))) :
    Calls Try.prog 60 #[.slice A l.length c, .func (.func 61) #[] #[.pointer (some ⟨hb, 0, none⟩)]] w fun e w' => e = .returned (.bool (inSp l h)) ∧ Below w.heap.size w w' := by
  have H := idxSpan_any h hb A c l w hr hm hh;clear hr hh
  go_enter Try.func60, Try.ntmps60
  go_wp2_with (go_at_call 113; refine H.mono ?_; rintro e w' ⟨r, rfl, hd, hb2⟩; have HD := Lib.hid (And.intro hd hb2); clear hd hb2)
  go_ret;exact ⟨by rw [← HD.out.1]; rfl, HD.out.2⟩
end Go.Proofs.Ythmldeningpjbaa
namespace Go.Proofs.Ythmldeningpjbaa
open Go Go.RowKit Sp
structure Cl2S where
  A1 : Option Addr
  c1 : Nat
  q1 : List Nat
  A2 : Option Addr
  c2 : Nat
  q2 : List Nat
structure Cl2C where
  e1 : TypeId
  z1 : Nat
  n1 : Nat
  xs1 : List Value
  e2 : TypeId
  z2 : Nat
  n2 : Nat
  xs2 : List Value
  ob : Nat
  t : TypeId
structure Cl2W (C : Cl2C) (o1 o2 : Nat) (cur : Cl2S → (Nat → Bool) → Array Value) (W0 : World) (s : Cl2S) (l : Nat → Bool) (w : World) : Prop where
  kp : Keep [C.ob] W0 w
  lt : C.ob < W0.heap.size
  a1 : l o1 = true → OwnS w C.e1 C.z1 s.A1 C.n1 s.c1 C.xs1 s.q1 ∧ ∀ g ∈ s.q1, W0.heap.size ≤ g
  a2 : l o2 = true → OwnS w C.e2 C.z2 s.A2 C.n2 s.c2 C.xs2 s.q2 ∧ ∀ g ∈ s.q2, W0.heap.size ≤ g
  dj : l o1 = true → l o2 = true → ∀ g ∈ s.q1, g ∉ s.q2
  hob : w.heap[C.ob]? = some (.cells (cur s l) C.t (0, 0))
section
variable {C : Cl2C} {o1 o2 : Nat} {cur : Cl2S → (Nat → Bool) → Array Value} {W0 w w' : World} {s : Cl2S} {l : Nat → Bool}
theorem Cl2W.start (h : W0.heap[C.ob]? = some (.cells (cur s fun _ => false) C.t (0, 0))) : Cl2W C o1 o2 cur W0 s (fun _ => false) W0.drew :=
  ⟨(Keep.refl _ _).drew, hL_ h, fun h => absurd h (by simp), fun h => absurd h (by simp), fun h => absurd h (by simp), h⟩
theorem Cl2W.put (H : Cl2W C o1 o2 cur W0 s l w) (i : Nat) (h1 : i ≠ o1) (h2 : i ≠ o2) (hk : Keep [C.ob] w w') (hh : w'.heap[C.ob]? = some (.cells (cur s (upd l i)) C.t (0, 0))) : Cl2W C o1 o2 cur W0 s (upd l i) w' := by
  have hq : ∀ (q : List Nat), (∀ g ∈ q, W0.heap.size ≤ g) → ∀ g ∈ q, g ∉ [C.ob] := fun q hq g hg => by have := hq g hg; have := H.lt; simp; omega
  refine ⟨H.kp.trans hk (fun x hx => .inl hx), H.lt, ?_, ?_, ?_, hh⟩
  · rw [upd_ne h1]; exact fun e => ⟨(H.a1 e).1.keepS hk (hq _ (H.a1 e).2), (H.a1 e).2⟩
  · rw [upd_ne h2]; exact fun e => ⟨(H.a2 e).1.keepS hk (hq _ (H.a2 e).2), (H.a2 e).2⟩
  · rw [upd_ne h1, upd_ne h2]; exact H.dj
theorem Cl2W.other (H : Cl2W C o1 o2 cur W0 s l w) (i : Nat) (h1 : i ≠ o1) (h2 : i ≠ o2) (hc : cur s (upd l i) = cur s l) : Cl2W C o1 o2 cur W0 s (upd l i) w :=
  H.put i h1 h2 (Keep.refl _ _) (by rw [hc]; exact H.hob)
theorem Cl2W.call1 (H : Cl2W C o1 o2 cur W0 s l w) (hn : o1 ≠ o2) {A : Option Addr} {c : Nat} {q : List Nat} (h1 : OwnS w' C.e1 C.z1 A C.n1 c C.xs1 q) (h2 : ∀ g ∈ q, w.heap.size ≤ g) (h3 : Below w.heap.size w w')
    (hc : cur { s with A1 := A, c1 := c, q1 := q } (upd l o1) = cur s l) : Cl2W C o1 o2 cur W0 { s with A1 := A, c1 := c, q1 := q } (upd l o1) w' := by
  have hk : Keep [] w w' := Keep.of_below h3;refine ⟨H.kp.trans hk (by simp), H.lt, fun _ => ⟨h1, fun g hg => Nat.le_trans H.kp.size (h2 g hg)⟩, ?_, ?_, ?_⟩
  · rw [upd_ne hn]; exact fun e => ⟨(H.a2 e).1.keepS hk (by simp), (H.a2 e).2⟩
  · rw [upd_ne hn]; exact fun _ e g hg hg2 => by have := h2 g hg; have := (H.a2 e).1.lt g hg2; omega
  · rw [hc]; exact (hk.block _ (hL_ H.hob) (by simp)).trans H.hob
theorem Cl2W.call2 (H : Cl2W C o1 o2 cur W0 s l w) (hn : o1 ≠ o2) {A : Option Addr} {c : Nat} {q : List Nat} (h1 : OwnS w' C.e2 C.z2 A C.n2 c C.xs2 q) (h2 : ∀ g ∈ q, w.heap.size ≤ g) (h3 : Below w.heap.size w w')
    (hc : cur { s with A2 := A, c2 := c, q2 := q } (upd l o2) = cur s l) : Cl2W C o1 o2 cur W0 { s with A2 := A, c2 := c, q2 := q } (upd l o2) w' := by
  have hk : Keep [] w w' := Keep.of_below h3;refine ⟨H.kp.trans hk (by simp), H.lt, ?_, fun _ => ⟨h1, fun g hg => Nat.le_trans H.kp.size (h2 g hg)⟩, ?_, ?_⟩
  · rw [upd_ne hn.symm]; exact fun e => ⟨(H.a1 e).1.keepS hk (by simp), (H.a1 e).2⟩
  · rw [upd_ne hn.symm]; exact fun e _ g hg hg2 => by have := h2 g hg2; have := (H.a1 e).1.lt g hg; omega
  · rw [hc]; exact (hk.block _ (hL_ H.hob) (by simp)).trans H.hob
end
end Go.Proofs.Ythmldeningpjbaa

namespace Go.Proofs.Ythmldeningpjbaa
open Go Go.RowKit Sp
theorem infoKI : (Try.prog.info? 3).map (fun i => (i.zero, i.size, i.bytes)) = some (some (.int .i64 0), 1, 8) := by kernel_rfl
theorem copyIntsO_any (A : Option Addr) (c : Nat) (l : List Int) (w : World) (hr : Rd w 1 A l.length (ints l)) (hl : l.length ≤ 100000000) :
    Calls Try.prog 87 #[.slice A l.length c] w fun e w' => ∃ A1 c1 q, e = .returned (.slice A1 l.length c1) ∧ OwnA w' 3 A1 l.length c1 (ints l) q ∧ (∀ g ∈ q, w.heap.size ≤ g) ∧ Below w.heap.size w w' := by
  obtain ⟨i0, hi, hz0, hz1, hz2⟩ := info_parts infoKI;have HR := Lib.hid hr;clear hr
  go_enter Try.func87, Try.ntmps87
  go_wp2_with (at_builtin
               refine wpList_append_As rfl (.tmp 4) (.tmp 5) 33 rfl i0 _ 8 Try.underlying33 hi hz0 hz1 hz2 rfl (A := none) (n := 0) (c := 0) (B := A) (m := l.length) (d := c) (xs := []) (fp := []) (ys := ints l) (by simp [Act.eval]) (by simp [Act.eval]) (OwnA.nil _ _) HR.out (by intro u hu; obtain ⟨x, _, rfl⟩ := List.mem_map.1 hu; rfl) (by omega) (by omega) ?_;intro A' c' w' fp' h1 h2 h3;have HQ := Lib.hid (And.intro h1 (And.intro h2 h3));clear h1 h2 h3)
  go_ret;have h1 := HQ.out.1;rw [Nat.zero_add, List.nil_append] at h1;refine ⟨A', c', fp', by simp, h1, fun g hg => ?_, HQ.out.2.2.below (Nat.le_refl _) (by simp)⟩;rcases HQ.out.2.1 g hg with h | h
  · simp at h
  · omega
end Go.Proofs.Ythmldeningpjbaa
