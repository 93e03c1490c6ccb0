import Derived.Test.YtalcinepeofmcaaPSp6
import Derived.Test.YtalcinepeofmcaaPSp0
import Derived.Test.YtalcinepeofmcaaProg
set_option linter.unusedVariables false
set_option linter.unusedSimpArgs false
set_option maxRecDepth 100000
set_option maxHeartbeats 40000000
namespace Go.Proofs.Ytalcinepeofmcaa
open Go Go.RowKit Sp Pt
theorem callsN_bd {p : Prt} {h : Int} (hg : ∀ x ∈ p.chs, 0 ≤ x.grow ∧ x.grow ≤ 100) : ∀ {l : List Cal} {i : Nat} {s : Stt} {B : Int}, 0 ≤ B → (∀ c ∈ l, (bt p c.berth).path.length ≤ 6 ∧ ∀ y ∈ (bt p c.berth).path, 0 ≤ y ∧ y < p.chs.length) → brR B s.brash → brR (B + 600 * l.length) (callsN p h l i s).2.2.brash
  | [], i, s, B, _, _, hb => by simpa [callsN] using hb
  | c :: l, i, s, B, hB, hl, hb => by
    have hc := hl c (by simp);have h0 : ∀ {b : List Int}, brR B b → brR (B + 600 * (c :: l).length) b := fun hb j => by have := hb j; rw [List.length_cons]; omega
    rw [callsN];split
    · have := callsN_bd hg hB (fun x hx => hl x (by simp [hx])) hb (l := l) (i := i + 1) (h := h);intro j; have := this j; rw [List.length_cons]; omega
    · split
      · exact h0 hb
      · split
        · exact h0 hb
        · have h1 := grow_bd hg hb hc.2;have h2 : brR (B + 600) (growN p (bt p c.berth).path s.brash) := fun j => by have := h1 j; omega
          have := callsN_bd hg (by omega) (fun x hx => hl x (by simp [hx])) (s := ⟨growN p (bt p c.berth).path s.brash, s.busy.set c.berth.toNat (!c.out)⟩) h2 (l := l) (i := i + 1) (h := h);intro j; have := this j; rw [List.length_cons]; omega
theorem hourR_bd {p : Prt} {l : Pln} (v : Val p l) {k : Nat} {s : Stt} {B : Int} (hB : 0 ≤ B) (hb : brR B s.brash) : brR (B + 36000) (hourR p l k s).2.2.brash := by
  have h1 := swpN_bd (B := B) (p := p) (h := k) (l := l.swps) (fun x hx => by have := v.sw x hx; omega) (fun x hx => by have := v.chf x hx; omega) hb;have h2 := callsN_bd (h := k) (fun x hx => by have := v.chf x hx; omega) (l := l.calls) (i := 0) (s := ⟨swpN p k l.swps s.brash, s.busy⟩) hB (fun c hc => by
    have hca := v.ca c hc;have hbv := v.btf _ (bt_mem hca.1 hca.2.1);have := nodup_range_le hbv.2.1 hbv.2.2;have := v.nc;exact ⟨by omega, hbv.2.2⟩) h1
  intro j;have := h2 j;have := v.nx;simp only [hourR];omega
theorem hourS_bd {p : Prt} {l : Pln} (v : Val p l) {k : Nat} {s : Stt} {B : Int} (hB : 0 ≤ B) (hb : brR B s.brash) : brR (B + 40000) (hourS p l k s).brash := by
  have h1 := hourR_bd v (k := k) hB hb;have h2 := frostN_bd (p := p) (fun x hx => by have := v.chf x hx; omega) h1 (Nat.le_refl _);intro j;have := h2 j;have := v.nc;simp only [hourS, frostL];omega
theorem stN_bd {p : Prt} {l : Pln} (v : Val p l) {s : Stt} {B : Int} (hB : 0 ≤ B) (hb : brR B s.brash) : ∀ k : Nat, brR (B + 40000 * k) (stN p l s k).brash
  | 0 => by simpa [stN] using hb
  | k + 1 => by
    have := hourS_bd v (k := k) (by omega) (stN_bd v hB hb k);intro j;have := this j;simp only [stN];omega
def RunPost (c : WC) (W : World) (s : Stt) (T : List Nat) (J1 : Nat → World → Prop) (e : Ending) (w' : World) : Prop :=
  e = .returned (.tuple #[.int .i64 (runR c.p c.l s).1, .int .i64 (runR c.p c.l s).2]) ∧ Keep (c.gb :: c.ub :: T) W w' ∧ ((runR c.p c.l s).2 = 0 → WkS c w' w' (stN c.p c.l s c.l.hours.toNat) ∧ J1 c.l.hours.toNat w')
theorem run_any {c : WC} {W : World} {s : Stt} (E : WcE c W (brV c) (buV c)) (N : WcN c) (S : WkS c W W s) (v : Val c.p c.l) (hbr : brR 1000000 s.brash) (nb ns : Nat) (kb ks : Array Value) (cb : ∀ a w, (callFunc nb a).run Try.prog w = .ok (.enter nb a) w) (cs : ∀ a w, (callFunc ns a).run Try.prog w = .ok (.enter ns a) w) (T : List Nat) (hT : ∀ x ∈ T, x ≠ c.wb ∧ x ≠ c.pb ∧ x ≠ c.lb ∧ c.D ≤ x ∧ x ≠ c.gb ∧ x ≠ c.ub)
    (J0 J1 J2 : Nat → World → Prop) (j0 : J0 0 W)
    (hb : ∀ (k : Nat) (w : World), k ≤ c.l.hours.toNat → WcE c w (brV c) (buV c) → WkS c w w (stN c.p c.l s k) → J0 k w → Keep (c.gb :: c.ub :: T) W w → Calls Try.prog nb (#[.int .i64 k] ++ kb) w fun e w' => e = .returned (.tuple #[]) ∧ (∃ T', Keep T' w w' ∧ ∀ x ∈ T', x ∈ T ∨ W.heap.size ≤ x) ∧ J1 k w')
    (hs : ∀ (k : Nat) (w : World), k < c.l.hours.toNat → WcE c w (brV c) (buV c) → WkS c w w ⟨swpN c.p k c.l.swps (stN c.p c.l s k).brash, (stN c.p c.l s k).busy⟩ → J1 k w → Keep (c.gb :: c.ub :: T) W w → Calls Try.prog ns (#[.int .i64 k] ++ ks) w fun e w' => e = .returned (.tuple #[]) ∧ (∃ T', Keep T' w w' ∧ ∀ x ∈ T', x ∈ T ∨ W.heap.size ≤ x) ∧ J2 k w')
    (j1 : ∀ k w w', Keep [c.gb, c.ub] w w' → J1 k w → J1 k w') (j2 : ∀ k w w', Keep [c.gb, c.ub] w w' → J2 k w → J0 (k + 1) w') :
    Calls Try.prog 26 #[.pointer (some ⟨c.wb, 0, none⟩), .func (.func nb) #[] kb, .func (.func ns) #[] ks] W (RunPost c W s T J1) := by
  obtain ⟨H, hH⟩ : ∃ H, H = c.l.hours.toNat := ⟨_, rfl⟩;have hHr : 1 ≤ H ∧ H ≤ 100 := by have := v.h; omega
  have hHi : c.l.hours = (H : Int) := by have := v.h; omega
  obtain ⟨q0, q1, _, _, _, _, q2, _, _, z1, _, z2⟩ := E.cells;rw [hHi] at q2;rw [← hH] at hb hs;have HH := Lib.hid (And.intro hH hHi);have HB := Lib.hid (And.intro hb (And.intro hs (And.intro j1 j2)));have HE := Lib.hid (And.intro E (And.intro N (And.intro S (And.intro v (And.intro hbr hT)))));have HJ := Lib.hid j0;clear hb hs j1 j2 E N S hbr hT hH hHi j0 v
  go_enter Try.func26, Try.ntmps26
  go_wp2_with fail
  have R0 : ∃ R, R = runF c.p c.l s 0 H := ⟨_, rfl⟩;obtain ⟨R, hR⟩ := R0;have HRR := Lib.hid hR;have hbk : ∀ k : Nat, k ≤ H → brR 10000000 (stN c.p c.l s k).brash := fun k hk j => by
    have := stN_bd HE.out.2.2.2.1 (by decide) HE.out.2.2.2.2.1 k j;omega
  have HK := Lib.hid hbk;have keepT : ∀ (w w' : World) (s' : Stt) (T' : List Nat), Keep T' w w' → (∀ x ∈ T', x ∈ T ∨ W.heap.size ≤ x) → WcE c w (brV c) (buV c) → WkS c w w s' → WcE c w' (brV c) (buV c) ∧ WkS c w' w' s' := fun w w' s' T' hk hT' hE hS => by
    have hz := HE.out.1.cells;have hg := HE.out.2.2.1.br.lt c.gb (by simp);have hu := HE.out.2.2.1.bu.lt c.ub (by simp);have hN := HE.out.2.1.g;have hT : ∀ x ∈ T', x ≠ c.wb ∧ x ≠ c.pb ∧ x ≠ c.lb ∧ c.D ≤ x ∧ x ≠ c.gb ∧ x ≠ c.ub := fun x hx => by
      rcases hT' x hx with e | e
      · exact HE.out.2.2.2.2.2 x e
      · have h1 := hz.2.2.2.2.2.2.2.2.2;omega
    refine ⟨hE.keep hk (fun x hx => by have := hT x hx; omega), Keep.refl _ _, hS.br.keepS hk (fun g hg hm => ?_), hS.bu.keepS hk (fun g hg hm => ?_)⟩
    · rw [List.mem_singleton.1 hg] at hm; have := hT _ hm; omega
    · rw [List.mem_singleton.1 hg] at hm; have := hT _ hm; omega
  have HT := Lib.hid keepT;clear hR hbk keepT
  go_loopg [6, 7, 18] (H) (fun g r6 r7 i wr => ∃ k : Nat, g + k = H ∧ i = .int .i64 k ∧ r6 = .int .i64 0 ∧ r7 = .int .i64 0 ∧ WcE c wr (brV c) (buV c) ∧ WkS c wr wr (stN c.p c.l s k) ∧ J0 k wr ∧ Keep (c.gb :: c.ub :: T) W wr ∧ R = runF c.p c.l s k (H - k))
  case atStart => exact ⟨0, rfl, rfl, rfl, rfl, HE.out.1, HE.out.2.2.1, HJ.out, Keep.refl _ _, HRR.out⟩
  case round =>
    obtain ⟨k, hk, rfl, rfl, rfl, hE, hS, hJ, hK, hF⟩ := hrel;by_cases hlt : k < H
    · have hFk : runF c.p c.l s k (H - k) = if (hourR c.p c.l k (stN c.p c.l s k)).2.1 ≠ 0 then ((hourR c.p c.l k (stN c.p c.l s k)).1, (hourR c.p c.l k (stN c.p c.l s k)).2.1) else runF c.p c.l s (k + 1) (H - (k + 1)) := by
        rw [show H - k = (H - (k + 1)) + 1 from by omega, runF]
      have k1 := HB.out.1 k wr (by omega) hE hS hJ hK;have H1 := Lib.hid (And.intro hE (And.intro hS (And.intro hK (And.intro (hF.trans hFk) k1))));clear hE hS hJ hK hF hFk k1 q0 q1 q2 z1 z2;go_wp2_with fail
      refine H1.out.2.2.2.2.mono ?_;rintro e w1 ⟨rfl, ⟨T1, kp1, hT1⟩, hj1⟩;obtain ⟨E1, S1⟩ := HT.out _ _ _ _ kp1 hT1 H1.out.1 H1.out.2.1;have K1 : Keep (c.gb :: c.ub :: T) W w1 := H1.out.2.2.1.trans kp1 (fun x hx => by rcases hT1 x hx with e | e; exact .inl (by simp [e]); exact .inr e);have H2 := Lib.hid (And.intro E1 (And.intro S1 (And.intro hj1 K1)));clear kp1 hT1 hj1 E1 S1 K1;go_wp2_with fail
      refine (sweep_any H2.out.1 HE.out.2.1 H2.out.2.1 HE.out.2.2.2.1 (fun j => by have := HK.out k (by omega) j; omega)).mono ?_;rintro e w2 ⟨rfl, S2⟩;have E2 := H2.out.1.at HE.out.2.1 S2;have K2 : Keep (c.gb :: c.ub :: T) W w2 := H2.out.2.2.2.trans S2.kp (by simp);have hj2 := HB.out.2.2.1 k w1 w2 S2.kp H2.out.2.2.1;have k3 := HB.out.2.1 k w2 hlt E2 S2.start hj2 K2;have H3 := Lib.hid (And.intro E2 (And.intro S2.start (And.intro K2 k3)));clear E2 S2 K2 hj2 k3;go_wp2_with fail
      refine H3.out.2.2.2.mono ?_;rintro e w3 ⟨rfl, ⟨T3, kp3, hT3⟩, hj3⟩;obtain ⟨E3, S3⟩ := HT.out _ _ _ _ kp3 hT3 H3.out.1 H3.out.2.1;have K3 : Keep (c.gb :: c.ub :: T) W w3 := H3.out.2.2.1.trans kp3 (fun x hx => by rcases hT3 x hx with e | e; exact .inl (by simp [e]); exact .inr e);have bd3 := swpN_bd (B := 10000000) (p := c.p) (h := k) (l := c.l.swps) (fun x hx => by have := HE.out.2.2.2.1.sw x hx; omega) (fun x hx => by have := HE.out.2.2.2.1.chf x hx; omega) (HK.out k (by omega));have H4 := Lib.hid (And.intro E3 (And.intro S3 (And.intro hj3 (And.intro K3 bd3))));clear kp3 hT3 hj3 E3 S3 K3 bd3;go_wp2_with fail
      refine (calls_any H4.out.1 HE.out.2.1 H4.out.2.1 HE.out.2.2.2.1 (fun j => by have := H4.out.2.2.2.2 j; simp only; omega)).mono ?_;rintro e w4 ⟨i, er, s', hR, rfl, S4, bd4⟩;have hR' : hourR c.p c.l k (stN c.p c.l s k) = (i, er, s') := hR.symm;have hF := H1.out.2.2.2.1;rw [hR'] at hF;have E4 := H4.out.1.at HE.out.2.1 S4;have K4 : Keep (c.gb :: c.ub :: T) W w4 := H4.out.2.2.2.1.trans S4.kp (by simp);have H5 := Lib.hid (And.intro E4 (And.intro S4 (And.intro K4 (And.intro hF (And.intro hR' bd4)))));clear E4 S4 K4 hF hR hR' bd4;by_cases her : er = 0
      · subst her;go_wp2_with fail
        refine (frost_any H5.out.1 HE.out.2.1 H5.out.2.1.start HE.out.2.2.2.1 (fun j => by have := H5.out.2.2.2.2.2 j; omega)).mono ?_;rintro e w5 ⟨rfl, S5⟩;have E5 := H5.out.1.at HE.out.2.1 S5;have K5 : Keep (c.gb :: c.ub :: T) W w5 := H5.out.2.2.1.trans S5.kp (by simp);have hst : stN c.p c.l s (k + 1) = ⟨frostL c.p s'.brash, s'.busy⟩ := by
          show hourS c.p c.l k (stN c.p c.l s k) = _;unfold hourS;rw [H5.out.2.2.2.2.1]
        have hj := HB.out.2.2.2 k w3 w5 (H5.out.2.1.kp.trans S5.kp (by simp)) H4.out.2.2.1;have hF := H5.out.2.2.2.1;rw [if_neg (by simp)] at hF;have S6 := S5.start;rw [← hst] at S6;have H6 := Lib.hid (And.intro E5 (And.intro S6 (And.intro hj (And.intro K5 hF))));clear E5 S5 S6 K5 hst hj hF;go_wp2_with fail
        go_roundg (gk - 1);case measure => omega
        case rel => exact ⟨k + 1, by omega, by go_num, rfl, rfl, H6.out.1, H6.out.2.1, H6.out.2.2.1, H6.out.2.2.2.1, H6.out.2.2.2.2⟩
      · have hne : (er != 0) = true := by simp [her]
        have hF := H5.out.2.2.2.1;rw [if_pos (by simpa using her)] at hF;have hrr : runR c.p c.l s = (i, er) := by rw [runR, ← HH.out.1, ← HRR.out, hF]
        have HF := Lib.hid (And.intro hrr her);clear hF hrr her;go_wp2_with fail
        go_ret2
        exact ⟨by rw [HF.out.1]; rfl, H5.out.2.2.1, fun h => absurd h (by rw [HF.out.1]; exact HF.out.2)⟩
    · obtain rfl : k = H := by omega
      have hrr : runR c.p c.l s = (c.l.calls.length, 0) := by rw [runR, ← HH.out.1, ← HRR.out, hF, Nat.sub_self]; rfl
      have k1 := HB.out.1 k wr (Nat.le_refl _) hE hS hJ hK;obtain ⟨q0, q1, _, _, _, _, q2, _, _, z1, _, z2⟩ := hE.cells;rw [HH.out.2] at q2;have H1 := Lib.hid (And.intro hE (And.intro hS (And.intro hK (And.intro hrr k1))));clear hE hS hJ hK hF hrr k1;go_wp2_with fail
      refine H1.out.2.2.2.2.mono ?_;rintro e w1 ⟨rfl, ⟨T1, kp1, hT1⟩, hj1⟩;obtain ⟨E1, S1⟩ := HT.out _ _ _ _ kp1 hT1 H1.out.1 H1.out.2.1;have K1 : Keep (c.gb :: c.ub :: T) W w1 := H1.out.2.2.1.trans kp1 (fun x hx => by rcases hT1 x hx with e | e; exact .inl (by simp [e]); exact .inr e);clear q0 q1 q2 z1 z2;obtain ⟨q0, q1, _, _, _, _, _, q2, _, z1, _, z2⟩ := E1.cells;have H2 := Lib.hid (And.intro E1 (And.intro S1 (And.intro hj1 K1)));clear kp1 hT1 hj1 E1 S1 K1;go_wp2_with fail
      go_ret2
      exact ⟨by rw [H1.out.2.2.2.1]; rfl, H2.out.2.2.2, fun _ => by rw [← HH.out.1]; exact ⟨H2.out.2.1, H2.out.2.2.1⟩⟩
structure SttB (D : Nat) (w : World) (Ar : Option Addr) (cr : Nat) (Au : Option Addr) (cu : Nat) (s : Stt) : Prop where
  br : RdB D w 1 Ar s.brash.length (ints s.brash)
  bu : RdB D w 1 Au s.busy.length (bools s.busy)
  c1 : s.brash.length ≤ cr ∧ cr ≤ 9223372036854775807 ∧ (Ar = none → cr = 0)
  c2 : s.busy.length ≤ cu ∧ cu ≤ 9223372036854775807 ∧ (Au = none → cu = 0)
abbrev sttV (Ar : Option Addr) (cr : Nat) (Au : Option Addr) (cu : Nat) (s : Stt) : Array Value := #[.slice Ar s.brash.length cr, .slice Au s.busy.length cu]
theorem SttB.below {D : Nat} {w w' : World} {Ar Au : Option Addr} {cr cu : Nat} {s : Stt} (h : SttB D w Ar cr Au cu s) (hb : Below D w w') : SttB D w' Ar cr Au cu s := ⟨h.br.below hb, h.bu.below hb, h.c1, h.c2⟩
structure Made0 (w w' : World) (c : WC) (D : Nat) (Ac : Option Addr) (cc : Nat) (Ab : Option Addr) (cb : Nat) (p : Prt) (Al : Option Addr) (cl : Nat) (As : Option Addr) (cs : Nat) (l : Pln) : Prop where
  eq : c.D = D ∧ c.Ac = Ac ∧ c.cc = cc ∧ c.Ab = Ab ∧ c.cb = cb ∧ c.p = p ∧ c.Al = Al ∧ c.cl = cl ∧ c.As = As ∧ c.cs = cs ∧ c.l = l
  new : w.heap.size ≤ c.wb ∧ w.heap.size ≤ c.pb ∧ w.heap.size ≤ c.lb ∧ w.heap.size ≤ c.gb ∧ w.heap.size ≤ c.ub
  N : WcN c
  E : WcE c w' (brV c) (buV c)
def StartPost (w : World) (D : Nat) (Ac : Option Addr) (cc : Nat) (Ab : Option Addr) (cb : Nat) (p : Prt) (Al : Option Addr) (cl : Nat) (As : Option Addr) (cs : Nat) (l : Pln) (s : Stt) (e : Ending) (w' : World) : Prop :=
  Below w.heap.size w w' ∧ ((startE p s l ≠ 0 ∧ e = .returned (.tuple #[.pointer none, .int .i64 (startE p s l)])) ∨
    (startE p s l = 0 ∧ ∃ c : WC, Made0 w w' c D Ac cc Ab cb p Al cl As cs l ∧ WkS c w' w' s ∧ e = .returned (.tuple #[.pointer (some ⟨c.wb, 0, none⟩), .int .i64 0])))
theorem startE_1 {p : Prt} {s : Stt} {l : Pln} {e : Int} (h : checkL p l = e) (h0 : e ≠ 0) : startE p s l = e := by unfold startE; rw [if_pos (by rw [h]; exact h0), h]
theorem startE_2 {p : Prt} {s : Stt} {l : Pln} (h : checkL p l = 0) (h0 : s.brash.length ≠ p.chs.length ∨ s.busy.length ≠ p.bts.length ∨ s.brash.any (fun n => !within n 0 1000000) = true) : startE p s l = 1 := by unfold startE; rw [if_neg (by rw [h]; simp), if_pos h0]
theorem startE_3 {p : Prt} {s : Stt} {l : Pln} (h : checkL p l = 0) (h1 : s.brash.length = p.chs.length) (h2 : s.busy.length = p.bts.length) (h3 : s.brash.any (fun n => !within n 0 1000000) = false) : startE p s l = 0 := by
  unfold startE; rw [if_neg (by rw [h]; simp), if_neg]; rintro (q | q | q)
  · exact q h1
  · exact q h2
  · rw [h3] at q; cases q
structure Sg5 where
  gb : Nat
  c1 : Nat
  ub : Nat
  c2 : Nat
  wb : Nat
def PzV (W0 : World) (sb pb lb n m cr cu : Nat) (Ar Au : Option Addr) (xs ys : List Value) (s : Sg5) : Nat → Value → Prop
  | 0, v => v = .pointer (some ⟨sb, 0, none⟩)
  | 1, v => v = .slice Ar n cr
  | 2, v => v = .slice (some ⟨s.gb, 0, none⟩) n s.c1
  | 3, v => v = .pointer (some ⟨sb, 1, none⟩)
  | 4, v => v = .slice Au m cu
  | 5, v => v = .slice (some ⟨s.ub, 0, none⟩) m s.c2
  | 6, v => v = .agg #[.pointer (some ⟨pb, 0, none⟩), .pointer (some ⟨lb, 0, none⟩), .slice (some ⟨s.gb, 0, none⟩) n s.c1, .slice (some ⟨s.ub, 0, none⟩) m s.c2]
  | 7, v => v = .pointer (some ⟨s.wb, 0, none⟩)
  | 8, v => v = .pointer (some ⟨s.wb, 0, none⟩)
  | 9, v => v = .int .i64 0
  | _, _ => True
def PzW (W0 : World) (sb pb lb n m cr cu : Nat) (Ar Au : Option Addr) (xs ys : List Value) (s : Sg5) (l : Nat → Bool) (w : World) : Prop := Keep [] W0 w ∧ (l 2 = true → OwnS w 3 1 (some ⟨s.gb, 0, none⟩) n s.c1 xs [s.gb] ∧ W0.heap.size ≤ s.gb) ∧ (l 5 = true → OwnS w 4 1 (some ⟨s.ub, 0, none⟩) m s.c2 ys [s.ub] ∧ W0.heap.size ≤ s.ub) ∧ (l 7 = true → w.heap[s.wb]? = some (.cells #[.pointer (some ⟨pb, 0, none⟩), .pointer (some ⟨lb, 0, none⟩), .slice (some ⟨s.gb, 0, none⟩) n s.c1, .slice (some ⟨s.ub, 0, none⟩) m s.c2] 104 (0, 0)) ∧ W0.heap.size ≤ s.wb)
theorem start_any (D : Nat) (Ac : Option Addr) (cc : Nat) (Ab : Option Addr) (cb : Nat) (p : Prt) (Al : Option Addr) (cl : Nat) (As : Option Addr) (cs : Nat) (l : Pln) (Ar : Option Addr) (cr : Nat) (Au : Option Addr) (cu : Nat) (s : Stt) (w : World)
    (PB : PrtB D w Ac cc Ab cb p) (LB : PlnB D w Al cl As cs l) (SB : SttB D w Ar cr Au cu s) (hD : D ≤ w.heap.size) :
    Calls Try.prog 25 #[.agg (prtV Ac cc Ab cb p), .agg (sttV Ar cr Au cu s), .agg (plnV Al cl As cs l)] w (StartPost w D Ac cc Ab cb p Al cl As cs l s) := by
  obtain ⟨W, hW⟩ : ∃ W, W = ((w.alloc (.cells (prtV Ac cc Ab cb p) 44)).alloc (.cells (sttV Ar cr Au cu s) 58)).alloc (.cells (plnV Al cl As cs l) 49) := ⟨_, rfl⟩;have b0 : Below w.heap.size w W := by rw [hW]; exact (((Below.refl _ _).alloc (Nat.le_refl _) _).alloc (by simp) _).alloc (by simp; omega) _
  obtain ⟨pb, hpb⟩ : ∃ b, b = w.heap.size := ⟨_, rfl⟩;obtain ⟨sb, hsb⟩ : ∃ b, b = w.heap.size + 1 := ⟨_, rfl⟩;obtain ⟨lb, hlb⟩ : ∃ b, b = w.heap.size + 1 + 1 := ⟨_, rfl⟩;have hp : W.heap[pb]? = some (.cells (prtV Ac cc Ab cb p) 44 (0, 0)) := by rw [hW, hpb]; exact hA_ (hA_ (heap_alloc_new _ _) _) _
  have hs : W.heap[sb]? = some (.cells (sttV Ar cr Au cu s) 58 (0, 0)) := by
    rw [hW, hsb];refine hA_ ?_ _;have := heap_alloc_new (w.alloc (.cells (prtV Ac cc Ab cb p) 44)) (.cells (sttV Ar cr Au cu s) 58)
    rwa [World.size_alloc] at this
  have hl : W.heap[lb]? = some (.cells (plnV Al cl As cs l) 49 (0, 0)) := by
    rw [hW, hlb];have := heap_alloc_new ((w.alloc (.cells (prtV Ac cc Ab cb p) 44)).alloc (.cells (sttV Ar cr Au cu s) 58)) (.cells (plnV Al cl As cs l) 49)
    rwa [World.size_alloc, World.size_alloc] at this
  obtain ⟨er, her⟩ : ∃ er, er = checkL p l := ⟨_, rfl⟩;have kck := CheckPlan_any D Ac cc Ab cb p Al cl As cs l W (PB.below (b0.mono hD)) (LB.below (b0.mono hD)) (by have := b0.size; omega);rw [← her] at kck;have c0 : W.cell? ⟨pb, 0, none⟩ = some (.slice Ac p.chs.length cc) := (cOH hp 0).trans rfl;have c1 : W.cell? ⟨pb, 1, none⟩ = some (.slice Ab p.bts.length cb) := (cOH hp 1).trans rfl;have c2 : W.cell? ⟨pb, 2, none⟩ = some (.int .i64 p.tugs) := (cOH hp 2).trans rfl;have c3 : W.cell? ⟨lb, 0, none⟩ = some (.int .i64 l.hours) := (cOH hl 0).trans rfl;have c4 : W.cell? ⟨lb, 1, none⟩ = some (.slice Al l.calls.length cl) := (cOH hl 1).trans rfl;have c5 : W.cell? ⟨lb, 2, none⟩ = some (.slice As l.swps.length cs) := (cOH hl 2).trans rfl;have zp := hL_ hp;have zl := hL_ hl;have hcl := And.intro LB.c1 LB.c2;have hcs := And.intro SB.c1 SB.c2;have H := Lib.hid (And.intro PB (And.intro LB (And.intro SB (And.intro b0 (And.intro hp (And.intro hs (And.intro hl (And.intro her kck))))))));have hnew : w.heap.size ≤ pb ∧ w.heap.size ≤ lb ∧ pb ≠ lb := by omega
  clear PB LB SB b0 hp hs hl her kck
  go_enter Try.func25, Try.ntmps25
  go_upto_region 1 with fail
  rw [← hW, ← hlb, ← hsb, ← hpb];clear hW hlb hsb hpb;by_cases h0 : er = 0
  · subst h0;go_upto_region 4 with (go_at_call 38; refine H.out.2.2.2.2.2.2.2.2.mono ?_; rintro e w1 ⟨rfl, b1⟩; have B1 := Lib.hid b1; clear b1)
    have hck : checkL p l = 0 := H.out.2.2.2.2.2.2.2.1.symm;have hpv := checkP_ok (checkL_ok hck).1;have hpn := hpv.nc;have hbn := hpv.nb;have bw1 : Below w.heap.size w w1 := H.out.2.2.2.1.trans (B1.out.mono H.out.2.2.2.1.size);have hp1 := (B1.out.block _ (hL_ H.out.2.2.2.2.1)).trans H.out.2.2.2.2.1;have hs1 := (B1.out.block _ (hL_ H.out.2.2.2.2.2.1)).trans H.out.2.2.2.2.2.1;have hl1 := (B1.out.block _ (hL_ H.out.2.2.2.2.2.2.1)).trans H.out.2.2.2.2.2.2.1;have SB1 := H.out.2.2.1.below (bw1.mono hD);have H1 := Lib.hid (And.intro hck (And.intro bw1 (And.intro hp1 (And.intro hs1 (And.intro hl1 SB1)))));have hD1 : D ≤ w1.heap.size := by have := bw1.size; omega
    clear c0 c1 c2 c3 c4 c5 zp zl hck hpv bw1 hp1 hs1 hl1 SB1;have c0 : w1.cell? ⟨pb, 0, none⟩ = some (.slice Ac p.chs.length cc) := (cOH H1.out.2.2.1 0).trans rfl;have c1 : w1.cell? ⟨pb, 1, none⟩ = some (.slice Ab p.bts.length cb) := (cOH H1.out.2.2.1 1).trans rfl;have s0 : w1.cell? ⟨sb, 0, none⟩ = some (.slice Ar s.brash.length cr) := (cOH H1.out.2.2.2.1 0).trans rfl;have s1 : w1.cell? ⟨sb, 1, none⟩ = some (.slice Au s.busy.length cu) := (cOH H1.out.2.2.2.1 1).trans rfl;have zp := hL_ H1.out.2.2.1;have zs := hL_ H1.out.2.2.2.1;have bad : startE p s l = 1 → StartPost w D Ac cc Ab cb p Al cl As cs l s (.returned (.tuple #[.pointer none, .int .i64 1])) w1 := fun h => ⟨H1.out.2.1, .inl ⟨by rw [h]; decide, by rw [h]⟩⟩;have HBad := Lib.hid bad;clear bad;by_cases h1 : s.brash.length = p.chs.length
    · by_cases h2 : s.busy.length = p.bts.length
      · obtain ⟨a, ha⟩ : ∃ a, a = s.brash.any (fun n => !within n 0 1000000) := ⟨_, rfl⟩;have kany := anyBad_any (fun n => !within n 0 1000000) Ar cr s.brash w1 (H1.out.2.2.2.2.2.br.rd hD1) (by omega) (fun x hx n => (stBad_any x _).mono fun e w' ⟨h, h'⟩ => ⟨h, n, h'.symm⟩);rw [← ha] at kany;have q1 : ((s.brash.length : Int) != (p.chs.length : Int)) = false := by simp [h1]
        have q2 : ((s.busy.length : Int) != (p.bts.length : Int)) = false := by simp [h2]
        have HA := Lib.hid (And.intro ha (And.intro kany (And.intro h1 h2)));obtain ⟨n, hn⟩ : ∃ n, n = s.brash.length := ⟨_, rfl⟩;obtain ⟨m, hm⟩ : ∃ m, m = s.busy.length := ⟨_, rfl⟩;have hn1 : 1 ≤ n ∧ n ≤ 6 := by omega
        have hm1 : 1 ≤ m ∧ m ≤ 4 := by omega
        have HNM := Lib.hid (And.intro hn hm);clear ha kany h1 h2;cases a
        · go_upto_region 6 with (go_at_call 45; refine HA.out.2.1.mono ?_; rintro e w2 ⟨rfl, mm, rfl⟩)
          obtain ⟨W2, hW2⟩ : ∃ W2, W2 = w1.drewN mm := ⟨_, rfl⟩;rw [← hW2];have k2 : Keep [] w1 W2 := by rw [hW2]; exact (Keep.refl _ _).drewN _
          have C1 := fun wx (hk : Keep [] W2 wx) => clonePtI_any Ar n cr (ints s.brash) wx (by rw [HNM.out.1]; exact (k2.trans hk (by simp)).rd (H1.out.2.2.2.2.2.br.rd hD1) (by simp)) (by intro u hu; simp [ints] at hu; obtain ⟨y, _, rfl⟩ := hu; rfl) (fun h => ⟨by have := hcs.1.2.2 h; have := hcs.1.1; omega, hcs.1.2.2 h⟩) (by omega);have C2 := fun wx (hk : Keep [] W2 wx) => clonePtB_any Au m cu (bools s.busy) wx (by rw [HNM.out.2]; exact (k2.trans hk (by simp)).rd (H1.out.2.2.2.2.2.bu.rd hD1) (by simp)) (by intro u hu; simp [bools] at hu; rcases hu with ⟨_, rfl⟩ | ⟨_, rfl⟩ <;> rfl) (fun h => ⟨by have := hcs.2.2.2 h; have := hcs.2.1; omega, hcs.2.2.2 h⟩) (by omega);have HC := Lib.hid (And.intro C1 C2);rw [← hn] at s0;rw [← hm] at s1;have HX := Lib.hid (And.intro (k2.cell s0 (by simp)) (k2.cell s1 (by simp)));have HK2 := Lib.hid k2;clear C1 C2 s0 s1 k2 hW2 c0 c1 zp zs hn hm;refine wRS (σ := Sg5) (by kernel_rfl) (by kernel_rfl) (fun sg jx vx _ => PzV W2 sb pb lb n m cr cu Ar Au (ints s.brash) (bools s.busy) sg jx vx) (fun sg ly wx => PzW W2 sb pb lb n m cr cu Ar Au (ints s.brash) (bools s.busy) sg ly wx) ⟨0, 0, 0, 0, 0⟩ ?_ ?_ ?_
          · exact ⟨(Keep.refl _ _).drew, (fun h => absurd h (by simp)), (fun h => absurd h (by simp)), (fun h => absurd h (by simp))⟩
          · simp only [AllFrom, Nat.zero_add, Nat.reduceAdd];refine ⟨?_, ?_, ?_, ?_, ?_, ?_, ?_, ?_, ?_, ?_, trivial⟩
            · refine sP_ fun sg ly a wr hl hd hW hF => ?_;have et4 := hF.old 4 (by kernel_rfl);simp [Act.eval] at et4;exact ⟨by simpa [PzW, upd] using hW, .pointer (some ⟨sb, 0, none⟩), by go_simp, rfl⟩
            · refine sP_ fun sg ly a wr hl hd hW hF => ?_;simp [Region.binds] at hd;have et36 := hF.new 0 36 (by simp [hd]) rfl;simp [PzV, Act.eval] at et36;have c0 := hW.1.cell HX.out.1 (by simp);exact ⟨by simpa [PzW, upd] using hW, _, by go_simp, rfl⟩
            · refine sC_ fun sg ly a wr hl hd hW hF => ?_;simp [Region.binds] at hd;have et37 := hF.new 1 37 (by simp [hd]) rfl;simp [PzV, Act.eval] at et37;have n6 := hF.notYet 2 6 hl (by kernel_rfl);have n7_6 := hF.notYet 2 6 hl (by kernel_rfl);have n7 := hF.notYet 6 7 n7_6 (by kernel_rfl);have n8_6 := hF.notYet 2 6 hl (by kernel_rfl);have n8_7 := hF.notYet 6 7 n8_6 (by kernel_rfl);have n8 := hF.notYet 7 8 n8_7 (by kernel_rfl);refine ⟨28, #[.slice Ar n cr], by go_simp, ?_⟩;refine (HC.out.1 wr hW.1).mono ?_;rintro e w2 ⟨A', c', q, rfl, h1, h2, h3⟩;obtain ⟨g, rfl, rfl, hg1, hg2, hg3⟩ := h1.some_ (by omega);have hgw := h2 g (by simp);refine ⟨_, { sg with gb := g, c1 := c' }, rfl, ⟨hW.1.trans (Keep.of_below (S := []) h3) (by simp), (fun _ => ⟨h1, Nat.le_trans hW.1.size hgw⟩), (fun h => ⟨(hW.2.2.1 (by simpa [upd] using h)).1.keepS (Keep.of_below (S := []) h3) (by simp), (hW.2.2.1 (by simpa [upd] using h)).2⟩), fun h => absurd h (by simp [upd, n7])⟩, rfl, ?_⟩;intro i u hi h;have i2 : i ≠ 2 := by rintro rfl; rw [hl] at hi; cases hi
              have i26 : i ≠ 6 := by rintro rfl; rw [n6] at hi; cases hi
              have i27 : i ≠ 7 := by rintro rfl; rw [n7] at hi; cases hi
              have i28 : i ≠ 8 := by rintro rfl; rw [n8] at hi; cases hi
              unfold PzV at h ⊢;split at h <;> first | exact h | exact absurd rfl i2 | exact absurd rfl i26 | exact absurd rfl i27 | exact absurd rfl i28
            · refine sP_ fun sg ly a wr hl hd hW hF => ?_;have et4 := hF.old 4 (by kernel_rfl);simp [Act.eval] at et4;exact ⟨by simpa [PzW, upd] using hW, .pointer (some ⟨sb, 1, none⟩), by go_simp, rfl⟩
            · refine sP_ fun sg ly a wr hl hd hW hF => ?_;simp [Region.binds] at hd;have et39 := hF.new 3 39 (by simp [hd]) rfl;simp [PzV, Act.eval] at et39;have c0 := hW.1.cell HX.out.2 (by simp);exact ⟨by simpa [PzW, upd] using hW, _, by go_simp, rfl⟩
            · refine sC_ fun sg ly a wr hl hd hW hF => ?_;simp [Region.binds] at hd;have et40 := hF.new 4 40 (by simp [hd]) rfl;simp [PzV, Act.eval] at et40;have n6 := hF.notYet 5 6 hl (by kernel_rfl);have n7_6 := hF.notYet 5 6 hl (by kernel_rfl);have n7 := hF.notYet 6 7 n7_6 (by kernel_rfl);have n8_6 := hF.notYet 5 6 hl (by kernel_rfl);have n8_7 := hF.notYet 6 7 n8_6 (by kernel_rfl);have n8 := hF.notYet 7 8 n8_7 (by kernel_rfl);refine ⟨47, #[.slice Au m cu], by go_simp, ?_⟩;refine (HC.out.2 wr hW.1).mono ?_;rintro e w2 ⟨A', c', q, rfl, h1, h2, h3⟩;obtain ⟨g, rfl, rfl, hg1, hg2, hg3⟩ := h1.some_ (by omega);have hgw := h2 g (by simp);refine ⟨_, { sg with ub := g, c2 := c' }, rfl, ⟨hW.1.trans (Keep.of_below (S := []) h3) (by simp), (fun h => ⟨(hW.2.1 (by simpa [upd] using h)).1.keepS (Keep.of_below (S := []) h3) (by simp), (hW.2.1 (by simpa [upd] using h)).2⟩), (fun _ => ⟨h1, Nat.le_trans hW.1.size hgw⟩), fun h => absurd h (by simp [upd, n7])⟩, rfl, ?_⟩;intro i u hi h;have i2 : i ≠ 5 := by rintro rfl; rw [hl] at hi; cases hi
              have i26 : i ≠ 6 := by rintro rfl; rw [n6] at hi; cases hi
              have i27 : i ≠ 7 := by rintro rfl; rw [n7] at hi; cases hi
              have i28 : i ≠ 8 := by rintro rfl; rw [n8] at hi; cases hi
              unfold PzV at h ⊢;split at h <;> first | exact h | exact absurd rfl i2 | exact absurd rfl i26 | exact absurd rfl i27 | exact absurd rfl i28
            · refine sP_ fun sg ly a wr hl hd hW hF => ?_;simp [Region.binds] at hd;have et3 := hF.old 3 (by kernel_rfl);simp [Act.eval] at et3;have et5 := hF.old 5 (by kernel_rfl);simp [Act.eval] at et5;have et38 := hF.new 2 38 (by simp [hd]) rfl;simp [PzV, Act.eval] at et38;have et41 := hF.new 5 41 (by simp [hd]) rfl;simp [PzV, Act.eval] at et41;exact ⟨by simpa [PzW, upd] using hW, .agg #[.pointer (some ⟨pb, 0, none⟩), .pointer (some ⟨lb, 0, none⟩), .slice (some ⟨sg.gb, 0, none⟩) n sg.c1, .slice (some ⟨sg.ub, 0, none⟩) m sg.c2], by go_simp, rfl⟩
            · refine sR_ fun sg ly a wr hl hd hW hF => ?_;simp [Region.binds] at hd;have et42 := hF.new 6 42 (by simp [hd]) rfl;simp [PzV, Act.eval] at et42;have n8 := hF.notYet 7 8 hl (by kernel_rfl);have hK : Keep [] wr (wr.alloc (.cells #[.pointer (some ⟨pb, 0, none⟩), .pointer (some ⟨lb, 0, none⟩), .slice (some ⟨sg.gb, 0, none⟩) n sg.c1, .slice (some ⟨sg.ub, 0, none⟩) m sg.c2] 104)) := (Keep.refl _ _).alloc _;refine ⟨_, wr.alloc (.cells #[.pointer (some ⟨pb, 0, none⟩), .pointer (some ⟨lb, 0, none⟩), .slice (some ⟨sg.gb, 0, none⟩) n sg.c1, .slice (some ⟨sg.ub, 0, none⟩) m sg.c2] 104), { sg with wb := wr.heap.size }, by go_simp, ⟨hW.1.alloc _, (fun h => ⟨(hW.2.1 (by simpa [upd] using h)).1.keepS hK (by simp), (hW.2.1 (by simpa [upd] using h)).2⟩), (fun h => ⟨(hW.2.2.1 (by simpa [upd] using h)).1.keepS hK (by simp), (hW.2.2.1 (by simpa [upd] using h)).2⟩), (fun _ => ⟨heap_alloc_new _ _, hW.1.size⟩)⟩, rfl, ?_⟩;intro i u hi h;have i2 : i ≠ 7 := by rintro rfl; rw [hl] at hi; cases hi
              have i28 : i ≠ 8 := by rintro rfl; rw [n8] at hi; cases hi
              unfold PzV at h ⊢;split at h <;> first | exact h | exact absurd rfl i2 | exact absurd rfl i28
            · refine sP_ fun sg ly a wr hl hd hW hF => ?_;simp [Region.binds] at hd;have et43 := hF.new 7 43 (by simp [hd]) rfl;simp [PzV, Act.eval] at et43;exact ⟨by simpa [PzW, upd] using hW, .pointer (some ⟨sg.wb, 0, none⟩), by go_simp, rfl⟩
            · refine sP_ fun sg ly a wr hl hd hW hF => ?_;exact ⟨by simpa [PzW, upd] using hW, .int .i64 0, by go_simp, rfl⟩
          intro sg a w3 hWW hF;have e6 := hF.new 8 6 (by decide) rfl;have e7 := hF.new 9 7 (by decide) rfl;obtain ⟨f3, hf3, rfl⟩ := hF.lit;rw [← hf3] at e6 e7;simp only [PzV] at e6 e7;obtain ⟨kp3, o1, o2, o3⟩ := hWW;obtain ⟨o1, o1'⟩ := o1 (by simp);obtain ⟨o2, o2'⟩ := o2 (by simp);obtain ⟨o3, o3'⟩ := o3 (by simp);have HF := Lib.hid (And.intro kp3 (And.intro o1 (And.intro o1' (And.intro o2 (And.intro o2' (And.intro o3 o3'))))));clear hf3 hF kp3 o1 o1' o2 o2' o3 o3';simp only [List.filterMap, List.foldl, List.setIfInBounds_toArray, List.set_cons_succ, List.set_cons_zero, e6, e7];clear e6 e7;go_wp2_with fail
          go_ret2
          obtain ⟨kp3, o1, o1', o2, o2', o3, o3'⟩ := HF.out;have hst := startE_3 (s := s) H1.out.1 HA.out.2.2.1 HA.out.2.2.2 HA.out.1.symm;have kk := HK2.out.trans kp3 (by simp);have bw3 : Below w.heap.size w w3 := H1.out.2.1.trans (kk.below H1.out.2.1.size (by simp));have hh : w.heap.size ≤ W2.heap.size := Nat.le_trans H1.out.2.1.size HK2.out.size;have zw1 := hL_ H1.out.2.2.1;have zl1 := hL_ H1.out.2.2.2.2.1;have hw12 := HK2.out.size;have hgu : sg.gb ≠ sg.ub := fun e => by
            obtain ⟨g1, cur1, e1, _, h1, _⟩ := o1.2.resolve_left (fun h => by cases h.1);obtain ⟨g2, cur2, e2, _, h2, _⟩ := o2.2.resolve_left (fun h => by cases h.1);injection e1 with e1; injection e1 with e1 _ _
            injection e2 with e2; injection e2 with e2 _ _
            subst e1; subst e2;rw [e, h2] at h1;injection h1 with h1; injection h1 with _ h1
            exact absurd h1 (by decide)
          have hgw : sg.gb ≠ sg.wb ∧ sg.ub ≠ sg.wb := ⟨fun e => by
            obtain ⟨g1, cur1, e1, _, h1, _⟩ := o1.2.resolve_left (fun h => by cases h.1);injection e1 with e1; injection e1 with e1 _ _
            subst e1;rw [e, o3] at h1;injection h1 with h1; injection h1 with _ h1
            exact absurd h1 (by decide), fun e => by
            obtain ⟨g1, cur1, e1, _, h1, _⟩ := o2.2.resolve_left (fun h => by cases h.1);injection e1 with e1; injection e1 with e1 _ _
            subst e1;rw [e, o3] at h1;injection h1 with h1; injection h1 with _ h1
            exact absurd h1 (by decide)⟩
          have hnp : n = p.chs.length := by rw [HNM.out.1]; exact HA.out.2.2.1
          have hmp : m = p.bts.length := by rw [HNM.out.2]; exact HA.out.2.2.2
          refine ⟨bw3, .inr ⟨hst, ⟨sg.wb, pb, lb, sg.gb, sg.ub, sg.c1, sg.c2, D, Ac, Ab, Al, As, cc, cb, cl, cs, p, l⟩, ⟨⟨rfl, rfl, rfl, rfl, rfl, rfl, rfl, rfl, rfl, rfl, rfl⟩, ⟨by simp only; omega, hnew.1, hnew.2.1, by simp only; omega, by simp only; omega⟩, ⟨hgu, ⟨hgw.1, by simp only; omega, by simp only; omega, by simp only; omega⟩, ⟨hgw.2, by simp only; omega, by simp only; omega, by simp only; omega⟩⟩, ⟨?_, (kk.block _ zw1 (by simp)).trans H1.out.2.2.1, (kk.block _ zl1 (by simp)).trans H1.out.2.2.2.2.1, H.out.1.below (bw3.mono hD), H.out.2.1.below (bw3.mono hD), by have := bw3.size; simp only; omega⟩⟩, ⟨Keep.refl _ _, by simp only; rw [← hnp]; exact o1, by simp only; rw [← hmp]; exact o2⟩, rfl⟩⟩;simp only [wkV, brV, buV];rw [← hnp, ← hmp];exact o3
        · clear hn hm;go_wp2_with (go_at_call 45; refine HA.out.2.1.mono ?_; rintro e w2 ⟨rfl, mm, rfl⟩)
          go_ret2
          have h := startE_2 (s := s) H1.out.1 (.inr (.inr HA.out.1.symm));exact ⟨below_drewN H1.out.2.1 _, .inl ⟨by rw [h]; decide, by rw [h]; rfl⟩⟩
      · have q1 : ((s.brash.length : Int) != (p.chs.length : Int)) = false := by simp [h1]
        have q2 : ((s.busy.length : Int) != (p.bts.length : Int)) = true := by simpa using (show ¬ (s.busy.length : Int) = (p.bts.length : Int) by omega)
        have h := HBad.out (startE_2 H1.out.1 (.inr (.inl h2)));have HF := Lib.hid h;clear h h1 h2;go_wp2_with fail
        go_ret2
        exact HF.out
    · have q1 : ((s.brash.length : Int) != (p.chs.length : Int)) = true := by simpa using (show ¬ (s.brash.length : Int) = (p.chs.length : Int) by omega)
      have h := HBad.out (startE_2 H1.out.1 (.inl h1));have HF := Lib.hid h;clear h h1;go_wp2_with fail
      go_ret2
      exact HF.out
  · have hne : (er != 0) = true := by simp [h0]
    have hc := startE_1 (s := s) H.out.2.2.2.2.2.2.2.1.symm h0;have HC := Lib.hid (And.intro hc h0);clear hc h0;go_wp2_with (go_at_call 38; refine H.out.2.2.2.2.2.2.2.2.mono ?_; rintro e w1 ⟨rfl, b1⟩)
    go_ret2
    exact ⟨H.out.2.2.2.1.trans (b1.mono H.out.2.2.2.1.size), .inl ⟨by rw [HC.out.1]; exact HC.out.2, by rw [HC.out.1]; rfl⟩⟩
theorem cbNothing (a : Array Value) (w : World) : (callFunc 29 a).run Try.prog w = .ok (.enter 29 a) w := by go_simp
def runE (p : Prt) (s : Stt) (l : Pln) : Int := if startE p s l ≠ 0 then startE p s l else (runR p l s).2
def runI (p : Prt) (s : Stt) (l : Pln) : Int := if startE p s l ≠ 0 then 0 else (runR p l s).1
def runV (p : Prt) (s : Stt) (l : Pln) : Stt := if runE p s l = 0 then stN p l s l.hours.toNat else ⟨[], []⟩
def FreshA (w : World) (A : Option Addr) : Prop := ∀ b o, A = some ⟨b, o, none⟩ → w.heap.size ≤ b
def RunsPost (w : World) (p : Prt) (s : Stt) (l : Pln) (e : Ending) (w' : World) : Prop :=
  ∃ A c B d, e = .returned (.tuple #[.agg (sttV A c B d (runV p s l)), .int .i64 (runI p s l), .int .i64 (runE p s l)]) ∧ SttB w'.heap.size w' A c B d (runV p s l) ∧ Below w.heap.size w w' ∧ FreshA w A ∧ FreshA w B
theorem stt_nil (w : World) (D : Nat) : SttB D w none 0 none 0 ⟨[], []⟩ := ⟨⟨rfl, fun h => absurd h (by decide)⟩, ⟨rfl, fun h => absurd h (by decide)⟩, ⟨Nat.le_refl _, by omega, fun _ => rfl⟩, ⟨Nat.le_refl _, by omega, fun _ => rfl⟩⟩
theorem stt_results {F : Func} {r s t : Nat} (hF : F.results = #[.cell r 58, .tmp s, .tmp t]) {W : World} {b : Nat} {A B : Option Addr} {n c m d : Nat} (h : W.heap[b]? = some (.cells #[.slice A n c, .slice B m d] 58 (0, 0))) (tmps : Array Value) (v u : Value) (hr : tmps.getD r undef = .pointer (some ⟨b, 0, none⟩)) (hs : tmps.getD s undef = v) (ht : tmps.getD t undef = u) :
    (results F tmps).run Try.prog W = .ok (.tuple #[.agg #[.slice A n c, .slice B m d], v, u]) W := by
  have g7 : tmps[r]?.getD undef = .pointer (some ⟨b, 0, none⟩) := by simpa using hr
  have g8 : tmps[s]?.getD undef = v := by simpa using hs
  have g9 : tmps[t]?.getD undef = u := by simpa using ht
  have c0 : W.cell? ⟨b, 0, none⟩ = some (.slice A n c) := (cOH h 0).trans rfl;have c1 : W.cell? ⟨b, 1, none⟩ = some (.slice B m d) := (cOH h 1).trans rfl;simp [results, hF, g7, g8, g9, asAddr, go_sem, c0, c1]
theorem wk_sttB {c : WC} {w : World} {s : Stt} (h : WkS c w w s) : SttB w.heap.size w (some ⟨c.gb, 0, none⟩) c.c1 (some ⟨c.ub, 0, none⟩) c.c2 s := by
  have hl := h.len;have r1 := h.br.rd;have r2 := h.bu.rd;rw [← hl.1] at r1;rw [← hl.2] at r2;exact ⟨RdB.of r1 (Nat.le_refl _), RdB.of r2 (Nat.le_refl _), ⟨by rw [hl.1]; exact h.br.ge, h.br.cap, fun h => by cases h⟩, ⟨by rw [hl.2]; exact h.bu.ge, h.bu.cap, fun h => by cases h⟩⟩
theorem start_bd {p : Prt} {s : Stt} {l : Pln} (h : startE p s l = 0) : checkL p l = 0 ∧ s.brash.length = p.chs.length ∧ s.busy.length = p.bts.length ∧ (∀ x ∈ s.brash, 0 ≤ x ∧ x ≤ 1000000) := by
  unfold startE at h;split at h
  · rename_i h1; exact absurd h h1
  · split at h
    · cases h
    · rename_i h1 h2
      have h3 : s.brash.length = p.chs.length ∧ s.busy.length = p.bts.length ∧ s.brash.any (fun n => !within n 0 1000000) = false := by
        refine ⟨Classical.byContradiction fun q => h2 (.inl q), Classical.byContradiction fun q => h2 (.inr (.inl q)), ?_⟩;cases q : s.brash.any (fun n => !within n 0 1000000) with
        | false => rfl
        | true => exact absurd (.inr (.inr q)) h2
      refine ⟨by simpa using h1, h3.1, h3.2.1, fun x hx => ?_⟩;have : (!within x 0 1000000) = false := by
        cases q : !within x 0 1000000 with
        | false => rfl
        | true => rw [List.any_eq_true.2 ⟨x, hx, q⟩] at h3; exact absurd h3.2.2 (by decide)
      simpa [within] using this
theorem brR_of {b : List Int} {B : Int} (hB : 0 ≤ B) (h : ∀ x ∈ b, 0 ≤ x ∧ x ≤ B) : brR B b := fun c => by
  unfold getI;rw [List.getD_eq_getElem?_getD];cases hc : b[c.toNat]? with
  | none => simpa using (by omega : -B ≤ 0 ∧ 0 ≤ B)
  | some x => have := h x (List.mem_of_getElem? hc); simpa using (by omega : -B ≤ x ∧ x ≤ B)
def RfV (W0 : World) (wb rb n c1 m c2 : Nat) (gb ub : Nat) (i : Int) : Nat → Value → Prop
  | 0, v => v = .pointer (some ⟨wb, 0, none⟩)
  | 1, v => v = .pointer (some ⟨wb, 0, none⟩)
  | 2, v => v = .pointer (some ⟨wb, 2, none⟩)
  | 3, v => v = .slice (some ⟨gb, 0, none⟩) n c1
  | 4, v => v = .pointer (some ⟨wb, 0, none⟩)
  | 5, v => v = .pointer (some ⟨wb, 0, none⟩)
  | 6, v => v = .pointer (some ⟨wb, 3, none⟩)
  | 7, v => v = .slice (some ⟨ub, 0, none⟩) m c2
  | 8, v => v = .agg #[.slice (some ⟨gb, 0, none⟩) n c1, .slice (some ⟨ub, 0, none⟩) m c2]
  | 9, v => v = .int .i64 i
  | 11, v => v = .int .i64 i
  | 12, v => v = .int .i64 0
  | _, _ => True
def RfW (W0 : World) (wb rb n c1 m c2 : Nat) (gb ub : Nat) (i : Int) (l : Nat → Bool) (w : World) : Prop := if l 10 then w = ((W0.setCell ⟨rb, 0, none⟩ (.slice (some ⟨gb, 0, none⟩) n c1)).setCell ⟨rb, 1, none⟩ (.slice (some ⟨ub, 0, none⟩) m c2)).drew else w = W0.drew
theorem Run_any (D : Nat) (Ac : Option Addr) (cc : Nat) (Ab : Option Addr) (cb : Nat) (p : Prt) (Al : Option Addr) (cl : Nat) (As : Option Addr) (cs : Nat) (l : Pln) (Ar : Option Addr) (cr : Nat) (Au : Option Addr) (cu : Nat) (s : Stt) (w : World)
    (PB : PrtB D w Ac cc Ab cb p) (LB : PlnB D w Al cl As cs l) (SB : SttB D w Ar cr Au cu s) (hD : D ≤ w.heap.size) :
    Calls Try.prog 17 #[.agg (prtV Ac cc Ab cb p), .agg (sttV Ar cr Au cu s), .agg (plnV Al cl As cs l)] w (RunsPost w p s l) := by
  obtain ⟨W, hW⟩ : ∃ W, W = (((w.alloc (.cells (prtV Ac cc Ab cb p) 44)).alloc (.cells (sttV Ar cr Au cu s) 58)).alloc (.cells (plnV Al cl As cs l) 49)).alloc (.cells #[.slice none 0 0, .slice none 0 0] 58) := ⟨_, rfl⟩;have b0 : Below w.heap.size w W := by rw [hW]; exact ((((Below.refl _ _).alloc (Nat.le_refl _) _).alloc (by simp) _).alloc (by simp; omega) _).alloc (by simp; omega) _
  obtain ⟨pb, hpb⟩ : ∃ b, b = w.heap.size := ⟨_, rfl⟩;obtain ⟨sb, hsb⟩ : ∃ b, b = w.heap.size + 1 := ⟨_, rfl⟩;obtain ⟨lb, hlb⟩ : ∃ b, b = w.heap.size + 1 + 1 := ⟨_, rfl⟩;obtain ⟨rb, hrb⟩ : ∃ b, b = w.heap.size + 1 + 1 + 1 := ⟨_, rfl⟩;have hp : W.heap[pb]? = some (.cells (prtV Ac cc Ab cb p) 44 (0, 0)) := by rw [hW, hpb]; exact hA_ (hA_ (hA_ (heap_alloc_new _ _) _) _) _
  have hs : W.heap[sb]? = some (.cells (sttV Ar cr Au cu s) 58 (0, 0)) := by
    rw [hW, hsb];refine hA_ (hA_ ?_ _) _;have := heap_alloc_new (w.alloc (.cells (prtV Ac cc Ab cb p) 44)) (.cells (sttV Ar cr Au cu s) 58)
    rwa [World.size_alloc] at this
  have hl : W.heap[lb]? = some (.cells (plnV Al cl As cs l) 49 (0, 0)) := by
    rw [hW, hlb];refine hA_ ?_ _;have := heap_alloc_new ((w.alloc (.cells (prtV Ac cc Ab cb p) 44)).alloc (.cells (sttV Ar cr Au cu s) 58)) (.cells (plnV Al cl As cs l) 49)
    rwa [World.size_alloc, World.size_alloc] at this
  have hr : W.heap[rb]? = some (.cells #[.slice none 0 0, .slice none 0 0] 58 (0, 0)) := by
    rw [hW, hrb];have := heap_alloc_new (((w.alloc (.cells (prtV Ac cc Ab cb p) 44)).alloc (.cells (sttV Ar cr Au cu s) 58)).alloc (.cells (plnV Al cl As cs l) 49)) (.cells #[.slice none 0 0, .slice none 0 0] 58)
    rwa [World.size_alloc, World.size_alloc, World.size_alloc] at this
  have kst := start_any D Ac cc Ab cb p Al cl As cs l Ar cr Au cu s W (PB.below (b0.mono hD)) (LB.below (b0.mono hD)) (SB.below (b0.mono hD)) (by have := b0.size; omega);have c0 : W.cell? ⟨pb, 0, none⟩ = some (.slice Ac p.chs.length cc) := (cOH hp 0).trans rfl;have c1 : W.cell? ⟨pb, 1, none⟩ = some (.slice Ab p.bts.length cb) := (cOH hp 1).trans rfl;have c2 : W.cell? ⟨pb, 2, none⟩ = some (.int .i64 p.tugs) := (cOH hp 2).trans rfl;have c3 : W.cell? ⟨lb, 0, none⟩ = some (.int .i64 l.hours) := (cOH hl 0).trans rfl;have c4 : W.cell? ⟨lb, 1, none⟩ = some (.slice Al l.calls.length cl) := (cOH hl 1).trans rfl;have c5 : W.cell? ⟨lb, 2, none⟩ = some (.slice As l.swps.length cs) := (cOH hl 2).trans rfl;have c6 : W.cell? ⟨sb, 0, none⟩ = some (.slice Ar s.brash.length cr) := (cOH hs 0).trans rfl;have c7 : W.cell? ⟨sb, 1, none⟩ = some (.slice Au s.busy.length cu) := (cOH hs 1).trans rfl;have zp := hL_ hp;have zl := hL_ hl;have zs := hL_ hs;have hrw : w.heap.size ≤ rb := by omega
  have H := Lib.hid (And.intro b0 (And.intro hr kst));clear b0 hp hs hl hr kst
  go_enter Try.func17, Try.ntmps17
  go_upto_region 1 with fail
  rw [← hW, ← hrb, ← hlb, ← hsb, ← hpb];clear hW hlb hsb hpb hrb;go_wp2_with fail
  refine H.out.2.2.mono ?_;rintro e w1 ⟨b1, hcase⟩;have hr1 := (b1.block _ (hL_ H.out.2.1)).trans H.out.2.1;have bw1 : Below w.heap.size w w1 := H.out.1.trans (b1.mono H.out.1.size);clear c0 c1 c2 c3 c4 c5 c6 c7 zp zl zs;rcases hcase with ⟨hne, rfl⟩ | ⟨he, c, hM, hS, rfl⟩
  · have f0 := fOH hr1 0;have f1 := fOH hr1 1;have d0 := (cOH hr1 0).trans rfl;have d1 := (cOH hr1 1).trans rfl;have zr := hL_ hr1;obtain ⟨er, her⟩ : ∃ er, er = startE p s l := ⟨_, rfl⟩;rw [← her] at hne ⊢;have hnb : (er != 0) = true := by simpa using hne
    have hv : runE p s l = er ∧ runI p s l = 0 := by unfold runE runI; rw [if_pos (by rw [← her]; exact hne), if_pos (by rw [← her]; exact hne), her]; exact ⟨rfl, rfl⟩
    have hvv : runV p s l = ⟨[], []⟩ := by unfold runV; rw [if_neg (by rw [hv.1]; exact hne)]
    have HF := Lib.hid (And.intro hv.1 (And.intro hv.2 (And.intro hvv (And.intro hr1 bw1))));clear hv hvv hr1 bw1 her hne b1;go_wp2_with fail
    refine bodyPost_ret (stt_results rfl (hS_ (hS_ HF.out.2.2.2.1 0 (.slice none 0 0)) 1 (.slice none 0 0)) _ _ _ rfl rfl rfl) rfl ?_;refine ⟨none, 0, none, 0, ?_, ?_, (HF.out.2.2.2.2.setCell hrw _).setCell hrw _, (fun _ _ h => by cases h), (fun _ _ h => by cases h)⟩
    · rw [HF.out.1, HF.out.2.1, HF.out.2.2.1]; rfl
    · rw [HF.out.2.2.1]; exact stt_nil _ _
  · obtain ⟨hc, hlen1, hlen2, hbr⟩ := start_bd he;obtain ⟨q1, q2, q3, q4, q5, q6, q7, q8, q9, q10, q11⟩ := hM.eq;have v : Val c.p c.l := by rw [q6, q11]; exact val_of hc
    have krun := run_any hM.E hM.N hS v (brR_of (by decide) hbr) 29 29 #[] #[] cbNothing cbNothing [] (by simp) (fun _ _ => True) (fun _ _ => True) (fun _ _ => True) trivial
      (fun k w _ _ _ _ _ => (nothing_any _ _).mono fun e w' h => ⟨h.1, ⟨[], by rw [← h.2]; exact Keep.refl _ _, by simp⟩, trivial⟩) (fun k w _ _ _ _ _ => (nothing_any _ _).mono fun e w' h => ⟨h.1, ⟨[], by rw [← h.2]; exact Keep.refl _ _, by simp⟩, trivial⟩) (fun _ _ _ _ _ => trivial) (fun _ _ _ _ _ => trivial)
    have hrn : rb ≠ c.gb ∧ rb ≠ c.ub ∧ rb ≠ c.wb := by have := hM.new; have := hL_ H.out.2.1; omega
    have hg := hM.new;obtain ⟨R, hR⟩ : ∃ R, R = runR p l s := ⟨_, rfl⟩;have HM := Lib.hid (And.intro hM (And.intro krun (And.intro he (And.intro hr1 (And.intro bw1 (And.intro q6 (And.intro q11 hR)))))));clear hM krun he hr1 bw1 hS v hc hbr hlen1 hlen2 q1 q2 q3 q4 q5 q6 q7 q8 q9 q10 q11 b1 hR;go_wp2_with fail
    refine HM.out.2.1.mono ?_;rintro e w3 ⟨rfl, kp, hok⟩;rw [HM.out.2.2.2.2.2.1, HM.out.2.2.2.2.2.2.1, ← HM.out.2.2.2.2.2.2.2] at hok ⊢;have hr3 := (kp.block rb (hL_ HM.out.2.2.2.1) (by simp; exact ⟨hrn.1, hrn.2.1⟩)).trans HM.out.2.2.2.1;have hWs := H.out.1.size;have bw3 : Below w.heap.size w w3 := HM.out.2.2.2.2.1.trans (kp.below HM.out.2.2.2.2.1.size (by simp; omega));have f0 := fOH hr3 0;have f1 := fOH hr3 1;have d0 := (cOH hr3 0).trans rfl;have d1 := (cOH hr3 1).trans rfl;have zr := hL_ hr3;obtain ⟨i, er⟩ := R;have hrr : runR p l s = (i, er) := HM.out.2.2.2.2.2.2.2.symm;have hv : runE p s l = er ∧ runI p s l = i := by unfold runE runI; rw [if_neg (by rw [HM.out.2.2.1]; simp), if_neg (by rw [HM.out.2.2.1]; simp), hrr]; exact ⟨rfl, rfl⟩
    by_cases her : er = 0
    · subst her;have hvv : runV p s l = stN p l s l.hours.toNat := by unfold runV; rw [if_pos hv.1]
      obtain ⟨S3, _⟩ := hok rfl;have E3 := HM.out.1.E.keep kp (by have := HM.out.1.N.g; have := HM.out.1.N.u; simp; omega);obtain ⟨_, _, q2, q3, _, _, _, _, _, z1, _, _⟩ := E3.cells;obtain ⟨n, hn⟩ : ∃ n, n = c.p.chs.length := ⟨_, rfl⟩;obtain ⟨m, hm⟩ : ∃ m, m = c.p.bts.length := ⟨_, rfl⟩;have hbr : brV c = .slice (some ⟨c.gb, 0, none⟩) n c.c1 := by rw [hn]
      have hbu : buV c = .slice (some ⟨c.ub, 0, none⟩) m c.c2 := by rw [hm]
      rw [hbr] at q2;rw [hbu] at q3;have hl3 := S3.len;have HF := Lib.hid (And.intro hv.1 (And.intro hv.2 (And.intro hvv (And.intro hr3 (And.intro bw3 (And.intro S3 (And.intro hn hm)))))));clear hv hvv hr3 bw3 S3 E3 hn hm hbr hbu hok kp hrr hl3;go_upto_region 7 with fail
      refine wRS (σ := Unit) (by kernel_rfl) (by kernel_rfl) (fun _ jx vx _ => RfV w3 c.wb rb n c.c1 m c.c2 c.gb c.ub i jx vx) (fun _ ly wx => RfW w3 c.wb rb n c.c1 m c.c2 c.gb c.ub i ly wx) () ?_ ?_ ?_
      · exact (by unfold RfW; rw [if_neg (by simp)])
      · simp only [AllFrom, Nat.zero_add, Nat.reduceAdd];refine ⟨?_, ?_, ?_, ?_, ?_, ?_, ?_, ?_, ?_, ?_, ?_, ?_, ?_, trivial⟩
        · refine sP_ fun sg ly a wr hl hd hW hF => ?_;have et9 := hF.old 9 (by kernel_rfl);simp [Act.eval] at et9;exact ⟨by simpa [RfW, upd] using hW, .pointer (some ⟨c.wb, 0, none⟩), by go_simp, rfl⟩
        · refine sP_ fun sg ly a wr hl hd hW hF => ?_;simp [Region.binds] at hd;have et33 := hF.new 0 33 (by simp [hd]) rfl;simp [RfV, Act.eval] at et33;exact ⟨by simpa [RfW, upd] using hW, .pointer (some ⟨c.wb, 0, none⟩), by go_simp, rfl⟩
        · refine sP_ fun sg ly a wr hl hd hW hF => ?_;simp [Region.binds] at hd;have et34 := hF.new 1 34 (by simp [hd]) rfl;simp [RfV, Act.eval] at et34;exact ⟨by simpa [RfW, upd] using hW, .pointer (some ⟨c.wb, 2, none⟩), by go_simp, rfl⟩
        · refine sP_ fun sg ly a wr hl hd hW hF => ?_;simp [Region.binds] at hd;have et35 := hF.new 2 35 (by simp [hd]) rfl;simp [RfV, Act.eval] at et35;have nL_8 := hF.notYet 3 8 hl (by kernel_rfl);have nL := hF.notYet 8 10 nL_8 (by kernel_rfl);have hW' := hW;unfold RfW at hW';rw [if_neg (by simp [nL])] at hW';subst hW';exact ⟨by unfold RfW; rw [if_neg (by simp [upd, nL])], _, by go_simp, rfl⟩
        · refine sP_ fun sg ly a wr hl hd hW hF => ?_;have et9 := hF.old 9 (by kernel_rfl);simp [Act.eval] at et9;exact ⟨by simpa [RfW, upd] using hW, .pointer (some ⟨c.wb, 0, none⟩), by go_simp, rfl⟩
        · refine sP_ fun sg ly a wr hl hd hW hF => ?_;simp [Region.binds] at hd;have et37 := hF.new 4 37 (by simp [hd]) rfl;simp [RfV, Act.eval] at et37;exact ⟨by simpa [RfW, upd] using hW, .pointer (some ⟨c.wb, 0, none⟩), by go_simp, rfl⟩
        · refine sP_ fun sg ly a wr hl hd hW hF => ?_;simp [Region.binds] at hd;have et38 := hF.new 5 38 (by simp [hd]) rfl;simp [RfV, Act.eval] at et38;exact ⟨by simpa [RfW, upd] using hW, .pointer (some ⟨c.wb, 3, none⟩), by go_simp, rfl⟩
        · refine sP_ fun sg ly a wr hl hd hW hF => ?_;simp [Region.binds] at hd;have et39 := hF.new 6 39 (by simp [hd]) rfl;simp [RfV, Act.eval] at et39;have nL_8 := hF.notYet 7 8 hl (by kernel_rfl);have nL := hF.notYet 8 10 nL_8 (by kernel_rfl);have hW' := hW;unfold RfW at hW';rw [if_neg (by simp [nL])] at hW';subst hW';exact ⟨by unfold RfW; rw [if_neg (by simp [upd, nL])], _, by go_simp, rfl⟩
        · refine sP_ fun sg ly a wr hl hd hW hF => ?_;simp [Region.binds] at hd;have et36 := hF.new 3 36 (by simp [hd]) rfl;simp [RfV, Act.eval] at et36;have et40 := hF.new 7 40 (by simp [hd]) rfl;simp [RfV, Act.eval] at et40;exact ⟨by simpa [RfW, upd] using hW, .agg #[.slice (some ⟨c.gb, 0, none⟩) n c.c1, .slice (some ⟨c.ub, 0, none⟩) m c.c2], by go_simp, rfl⟩
        · refine sP_ fun sg ly a wr hl hd hW hF => ?_;have et11 := hF.old 11 (by kernel_rfl);simp [Act.eval] at et11;exact ⟨by simpa [RfW, upd] using hW, .int .i64 i, by go_simp, rfl⟩
        · refine sS_ rfl fun sg ly a wr hl hd hW hF => ?_;simp [Region.binds] at hd;have et6 := hF.old 6 (by kernel_rfl);simp [Act.eval] at et6;have et41 := hF.new 8 41 (by simp [hd]) rfl;simp [RfV, Act.eval] at et41;have hW' := hW;unfold RfW at hW';rw [if_neg (by simp [hl])] at hW';subst hW';refine ⟨((w3.setCell ⟨rb, 0, none⟩ (.slice (some ⟨c.gb, 0, none⟩) n c.c1)).setCell ⟨rb, 1, none⟩ (.slice (some ⟨c.ub, 0, none⟩) m c.c2)).drew, (), .skip, by go_simp, .inl rfl, by unfold RfW; rw [if_pos (by simp [upd])], fun _ _ _ h => h⟩
        · refine sP_ fun sg ly a wr hl hd hW hF => ?_;simp [Region.binds] at hd;have et42 := hF.new 9 42 (by simp [hd]) rfl;simp [RfV, Act.eval] at et42;exact ⟨by simpa [RfW, upd] using hW, .int .i64 i, by go_simp, rfl⟩
        · refine sP_ fun sg ly a wr hl hd hW hF => ?_;exact ⟨by simpa [RfW, upd] using hW, .int .i64 0, by go_simp, rfl⟩
      intro _ a w5 hWW hF;have e7 := hF.new 11 7 (by decide) rfl;have e8 := hF.new 12 8 (by decide) rfl;obtain ⟨f3, hf3, rfl⟩ := hF.lit;rw [← hf3] at e7 e8;simp only [RfV] at e7 e8;have hw5 : w5 = ((w3.setCell ⟨rb, 0, none⟩ (.slice (some ⟨c.gb, 0, none⟩) n c.c1)).setCell ⟨rb, 1, none⟩ (.slice (some ⟨c.ub, 0, none⟩) m c.c2)).drew := by
        have h5 := hWW;unfold RfW at h5
        rwa [if_pos (by simp)] at h5
      clear hf3 hF hWW;simp only [List.filterMap, List.foldl, List.setIfInBounds_toArray, List.set_cons_succ, List.set_cons_zero, e7, e8];clear e7 e8;have hr5 : w5.heap[rb]? = some (.cells #[.slice (some ⟨c.gb, 0, none⟩) n c.c1, .slice (some ⟨c.ub, 0, none⟩) m c.c2] 58 (0, 0)) := by rw [hw5]; exact hS_ (hS_ HF.out.2.2.2.1 0 _) 1 _
      have kp5 : Keep [rb] w3 w5 := by rw [hw5]; exact (((Keep.refl _ _).setCell (.inl (by simp)) _).setCell (.inl (by simp)) _).drew
      have S5 : WkS c w5 w5 (stN p l s l.hours.toNat) := ⟨Keep.refl _ _, HF.out.2.2.2.2.2.1.br.keepS kp5 (by simpa using hrn.1.symm), HF.out.2.2.2.2.2.1.bu.keepS kp5 (by simpa using hrn.2.1.symm)⟩;have H5 := Lib.hid (And.intro hr5 (And.intro kp5 S5));clear hw5 hr5 kp5 S5;go_wp2_with fail
      refine bodyPost_ret (stt_results rfl H5.out.1 _ _ _ rfl rfl rfl) rfl ?_;have hl5 := H5.out.2.2.len;refine ⟨some ⟨c.gb, 0, none⟩, c.c1, some ⟨c.ub, 0, none⟩, c.c2, ?_, ?_, HF.out.2.2.2.2.1.trans (H5.out.2.1.below HF.out.2.2.2.2.1.size (by simpa using hrw)), (fun b o h => by injection h with h; injection h with h _ _; omega), (fun b o h => by injection h with h; injection h with h _ _; omega)⟩
      · rw [HF.out.1, HF.out.2.1, HF.out.2.2.1];simp only [sttV];rw [hl5.1, hl5.2, ← HF.out.2.2.2.2.2.2.1, ← HF.out.2.2.2.2.2.2.2]; rfl
      · rw [HF.out.2.2.1]; exact wk_sttB H5.out.2.2
    · have hnb : (er != 0) = true := by simpa using her
      have hvv : runV p s l = ⟨[], []⟩ := by unfold runV; rw [if_neg (by rw [hv.1]; exact her)]
      have HF := Lib.hid (And.intro hv.1 (And.intro hv.2 (And.intro hvv (And.intro hr3 bw3))));clear hv hvv hr3 bw3 her hok kp hrr;go_wp2_with fail
      refine bodyPost_ret (stt_results rfl (hS_ (hS_ HF.out.2.2.2.1 0 (.slice none 0 0)) 1 (.slice none 0 0)) _ _ _ rfl rfl rfl) rfl ?_;refine ⟨none, 0, none, 0, ?_, ?_, (HF.out.2.2.2.2.setCell hrw _).setCell hrw _, (fun _ _ h => by cases h), (fun _ _ h => by cases h)⟩
      · rw [HF.out.1, HF.out.2.1, HF.out.2.2.1]; rfl
      · rw [HF.out.2.2.1]; exact stt_nil _ _
end Go.Proofs.Ytalcinepeofmcaa
namespace Go.Proofs.Ytalcinepeofmcaa
open Go Go.RowKit Sp
def byts (l : List Int) : List Value := l.map (Value.int .u8)
theorem byts_get {l : List Int} {k : Nat} (h : k < l.length) : (byts l)[k]? = some (.int .u8 (l.getD k 0)) := by simp [byts, h]
structure DrawSt (w : World) (ib lb : Nat) (A : Option Addr) (c : Nat) (l : List Int) (k : Nat) : Prop where
  cnt : w.heap[ib]? = some (.cells #[.int .i64 (min k l.length : Nat)] 3 (0, 0))
  lst : w.heap[lb]? = some (.cells #[.slice A l.length c] 22 (0, 0))
  rd : Rd w 1 A l.length (byts l)
theorem DrawSt.keep {w w' : World} {ib lb : Nat} {A : Option Addr} {c : Nat} {l : List Int} {k : Nat} (h : DrawSt w ib lb A c l k) {S : List Nat} (hk : Keep S w w') (h1 : ib ∉ S) (h2 : lb ∉ S) (h3 : 0 < l.length → ∀ b off, A = some ⟨b, off, none⟩ → b ∉ S) : DrawSt w' ib lb A c l k :=
  ⟨(hk.block _ (hL_ h.cnt) h1).trans h.cnt, (hk.block _ (hL_ h.lst) h2).trans h.lst, h.rd.1, fun h0 => (hk.rd h.rd (h3 h0)).2 h0⟩
def draw (l : List Int) (k : Nat) (n : Int) : Int := l.getD k 0 % n
theorem draw_range {l : List Int} (k : Nat) {n : Int} (hn : 0 < n) : 0 ≤ draw l k n ∧ draw l k n < n := ⟨Int.emod_nonneg _ (by omega), Int.emod_lt_of_pos _ hn⟩
def Bytes (l : List Int) : Prop := ∀ x ∈ l, 0 ≤ x ∧ x ≤ 255
theorem Bytes.get {l : List Int} (h : Bytes l) (k : Nat) : 0 ≤ l.getD k 0 ∧ l.getD k 0 ≤ 255 := by
  rw [List.getD_eq_getElem?_getD];cases hk : l[k]? with
  | none => simp
  | some x => exact h x (List.mem_of_getElem? hk)
def NextPost (w : World) (ib lb : Nat) (A : Option Addr) (c : Nat) (l : List Int) (k : Nat) (n : Int) (e : Ending) (w' : World) : Prop :=
  e = .returned (.int .i64 (draw l k n)) ∧ DrawSt w' ib lb A c l (k + 1) ∧ Keep [ib] w w' ∧ w'.heap.size = w.heap.size
theorem next_any (ib lb : Nat) (A : Option Addr) (c : Nat) (l : List Int) (k : Nat) (n : Int) (w : World) (h : DrawSt w ib lb A c l k) (hl : Bytes l) (hm : l.length ≤ 9223372036854775806) (hne : ib ≠ lb) (hA : 0 < l.length → ∀ b off, A = some ⟨b, off, none⟩ → b ≠ ib) (hn : 0 < n ∧ n ≤ 1000) :
    Calls Try.prog 24 #[.int .i64 n, .pointer (some ⟨ib, 0, none⟩), .pointer (some ⟨lb, 0, none⟩)] w (NextPost w ib lb A c l k n) := by
  have ci : w.cell? ⟨ib, 0, none⟩ = some (.int .i64 (min k l.length : Nat)) := (cOH h.cnt 0).trans rfl;have cl : w.cell? ⟨lb, 0, none⟩ = some (.slice A l.length c) := (cOH h.lst 0).trans rfl;have fi := fOH h.cnt 0;have zi := hL_ h.cnt;have zl := hL_ h.lst;obtain ⟨hn1, hn2⟩ := hn;have H := Lib.hid h;by_cases hk : k < l.length
  · obtain ⟨b, off, u, rfl, hb, hu, hc⟩ := h.rd.one hk;rw [byts_get hk] at hu;obtain rfl : Value.int .u8 (l.getD k 0) = u := by injection hu
    obtain ⟨x, hx⟩ : ∃ x, x = l.getD k 0 := ⟨_, rfl⟩;have hxr := hl.get k;rw [← hx] at hc hxr;have hbi : b ≠ ib := hA (by omega) b off rfl;have e1 : (min k l.length : Nat) = k := by omega
    rw [e1] at ci;have e2 := World.cell?_setCell_same w ⟨ib, 0, none⟩ (.int .i64 ((k : Int) + 1)) ci;have HX := Lib.hid hx;clear h hx hu e1
    go_enter Try.func24, Try.ntmps24
    go_wp2
    go_ret;have K : Keep [ib] w (w.setCell ⟨ib, 0, none⟩ (.int .i64 ((k : Int) + 1))) := (Keep.refl _ _).setCell (.inl (by simp)) _;refine ⟨by rw [draw, ← HX.out]; rfl, ⟨?_, (K.block _ zl (by simp; omega)).trans H.out.lst, K.rd H.out.rd fun b' off' e => by have := hA (by omega) b' off' e; simpa using this⟩, K, by simp [World.setCell]⟩;rw [hS_ H.out.cnt, show min (k + 1) l.length = k + 1 from by omega];rfl
  · have e1 : (min k l.length : Nat) = l.length := by omega
    rw [e1] at ci;have HE := Lib.hid e1;clear h e1
    go_enter Try.func24, Try.ntmps24
    go_wp2
    go_ret;refine ⟨?_, ⟨?_, H.out.lst, H.out.rd⟩, Keep.refl _ _, rfl⟩
    · rw [draw, List.getD_eq_getElem?_getD, List.getElem?_eq_none (by omega)]; simp
    · rw [H.out.cnt, show min (k + 1) l.length = min k l.length from by omega]
theorem Drawn_any (A : Option Addr) (c : Nat) (l : List Int) (w : World) (hr : Rd w 1 A l.length (byts l)) :
    Calls Try.prog 12 #[.slice A l.length c] w fun e w' => e = .returned (.func (.func 24) #[] #[.pointer (some ⟨w.heap.size + 1, 0, none⟩), .pointer (some ⟨w.heap.size, 0, none⟩)]) ∧ DrawSt w' (w.heap.size + 1) w.heap.size A c l 0 ∧ Below w.heap.size w w' ∧ w'.heap.size = w.heap.size + 2 := by
  go_enter Try.func12, Try.ntmps12
  go_wp2
  go_ret;have b : Below w.heap.size w ((w.alloc (.cells #[.slice A l.length c] 22)).alloc (.cells #[.int .i64 0] 3)) := ((Below.refl _ _).alloc (Nat.le_refl _) _).alloc (by simp) _;refine ⟨rfl, ⟨?_, hA_ (heap_alloc_new _ _) _, hr.below b⟩, b, by simp⟩;have := heap_alloc_new (w.alloc (.cells #[.slice A l.length c] 22)) (.cells #[.int .i64 0] 3);rw [World.size_alloc] at this;rw [this]; simp
end Go.Proofs.Ytalcinepeofmcaa
