import Derived.Test.YthmldeningpjbaaPLp0
import Derived.Test.YthmldeningpjbaaPLp15
import Derived.Test.YthmldeningpjbaaPLp13
import Derived.Test.YthmldeningpjbaaPLp18
import Derived.BigQuiet
set_option linter.unusedVariables false
set_option linter.unusedSimpArgs false
set_option maxRecDepth 100000
set_option maxHeartbeats 40000000
namespace Go.Proofs.Ythmldeningpjbaa
open Go Go.RowKit Sp Pt
theorem idxThin_any (f : Int → Bool) (c0 c1 : Value) (A : Option Addr) (c : Nat) (l : List Int) (w : World) (hr : Rd w 1 A l.length (ints l)) (hm : l.length ≤ 9223372036854775807)
    (hf : ∀ x ∈ l, ∀ n, Calls Try.prog 111 #[.int .i64 x, c0, c1] (w.drewN n) fun e w' => e = .returned (.bool (f x)) ∧ ∃ m, w' = w.drewN m) :
    Calls Try.prog 76 #[.slice A l.length c, .func (.func 111) #[] #[c0, c1]] w fun e w' => ∃ r : Int, e = .returned (.int .i64 r) ∧ decide (0 ≤ r) = l.any f ∧ ∃ m, w' = w.drewN m := by
  go_enter Try.func76, Try.ntmps76
  go_wp2_with fail
  go_loopg [8] (l.length) (fun g i wr => ∃ k : Nat, g + k = l.length ∧ i = .int .i64 k ∧ (l.take k).any f = false ∧ ∃ m, wr = w.drewN m)
  case atStart => exact ⟨0, rfl, rfl, by simp, 0, rfl⟩
  case round =>
    obtain ⟨k, hk, rfl, hb, m, rfl⟩ := hrel;have HB := Lib.hid hb;clear hb;by_cases hlt : k < l.length
    · obtain ⟨b, off, rfl, hbb, hc⟩ := hr.2 (by omega);have c0 := hc k _ (iG_ hlt);obtain ⟨x, hx⟩ : ∃ x, x = l.getD k 0 := ⟨_, rfl⟩;rw [← hx] at c0;have hx' : l[k] = x := by rw [hx]; simp [hlt]
      have H := hf x (by rw [← hx']; exact List.getElem_mem _) m;obtain ⟨z, hz⟩ : ∃ z, z = f x := ⟨_, rfl⟩;rw [← hz] at H;have hs : (l.take (k + 1)).any f = z := by rw [List.take_succ_eq_append_getElem hlt, List.any_append, HB.out, hx', hz]; simp
      have HH := Lib.hid (And.intro H hs);clear H hs hz hx' hx hc hr hf;cases z
      · go_wp2_with (go_at_call 111; refine HH.out.1.mono ?_; rintro e w' ⟨rfl, m', rfl⟩)
        go_roundg (gk - 1);case measure => omega
        case rel => exact ⟨k + 1, by omega, by go_num, HH.out.2, m', rfl⟩
      · go_wp2_with (go_at_call 111; refine HH.out.1.mono ?_; rintro e w' ⟨rfl, m', rfl⟩)
        go_ret;refine ⟨k, rfl, ?_, m', rfl⟩;have h1 : l.any f = true := by
          obtain ⟨y, hy, hfy⟩ := List.any_eq_true.1 HH.out.2;exact List.any_eq_true.2 ⟨y, List.mem_of_mem_take hy, hfy⟩
        rw [h1]; simp
    · obtain rfl : k = l.length := by omega
      go_wp2_with fail
      go_ret;exact ⟨-1, rfl, by have := HB.out; rw [List.take_length] at this; rw [this]; simp, m, rfl⟩
theorem anyThin_any (f : Int → Bool) (c0 c1 : Value) (A : Option Addr) (c : Nat) (l : List Int) (w : World) (hr : Rd w 1 A l.length (ints l)) (hm : l.length ≤ 9223372036854775807)
    (hf : ∀ x ∈ l, ∀ n, Calls Try.prog 111 #[.int .i64 x, c0, c1] (w.drewN n) fun e w' => e = .returned (.bool (f x)) ∧ ∃ m, w' = w.drewN m) :
    Calls Try.prog 20 #[.slice A l.length c, .func (.func 111) #[] #[c0, c1]] w fun e w' => e = .returned (.bool (l.any f)) ∧ ∃ m, w' = w.drewN m := by
  have H := idxThin_any f c0 c1 A c l w hr hm hf;clear hf
  go_enter Try.func20, Try.ntmps20
  go_wp2_with (go_at_call 76; refine H.mono ?_; rintro e w' ⟨r, rfl, hd, m, rfl⟩; have HD := Lib.hid hd; clear hd)
  go_ret;exact ⟨by rw [← HD.out]; rfl, m, rfl⟩
theorem joinS_add (L : List (Int × Int)) (h : Int) : joinS L h = spanAdd L h := by
  unfold joinS spanAdd;cases e : L.getLast? with
  | none => rw [List.getLast?_eq_none_iff] at e; subst e; rfl
  | some s => rfl
theorem sl1_any {w : World} {pb np ck : Nat} {Ak : Option Addr} {path : List Int} (h1 : w.cell? ⟨pb, 0, none⟩ = some (.slice Ak path.length ck)) (hr : Rd w 1 Ak path.length (ints path)) (hn : path.length ≤ 1000) (x : Int) (m : Nat) :
    Calls Try.prog 109 #[.int .i64 x, .pointer (some ⟨pb, 0, none⟩)] (w.drewN m) fun e w' => e = .returned (.bool (decide (x ∈ path))) ∧ ∃ m', w' = w.drewN m' := by
  have z1 := World.block_lt_of_cell? _ _ h1;obtain ⟨W, hW⟩ : ∃ W, W = w.drewN m := ⟨_, rfl⟩;have g1 : W.cell? ⟨pb, 0, none⟩ = some (.slice Ak path.length ck) := by rw [hW]; exact h1
  have y1 : pb < W.heap.size := by rw [hW]; exact z1
  have kc := contI_any Ak ck path x W (by rw [hW]; exact hr) (by omega);rw [show path.contains x = decide (x ∈ path) from by simp] at kc;rw [← hW];have HW := Lib.hid (And.intro hW kc);clear hW h1 z1 hr kc
  go_enter Try.func109, Try.ntmps109
  go_wp2_with (go_at_call 22; refine HW.out.2.mono ?_; rintro e w' ⟨rfl, rfl⟩)
  go_ret;exact ⟨rfl, m, HW.out.1⟩
theorem sl21_any {w : World} {bw wb gb xb n c1 k : Nat} {x mo : Int} (h1 : w.cell? ⟨bw, 0, none⟩ = some (.pointer (some ⟨wb, 0, none⟩))) (h2 : w.cell? ⟨wb, 2, none⟩ = some (.slice (some ⟨gb, 0, none⟩) n c1)) (h3 : w.cell? ⟨gb, k, none⟩ = some (.int .i64 x)) (h4 : w.cell? ⟨xb, 0, none⟩ = some (.int .i64 mo)) (hk : k < n) (m : Nat) :
    Calls Try.prog 111 #[.int .i64 k, .pointer (some ⟨bw, 0, none⟩), .pointer (some ⟨xb, 0, none⟩)] (w.drewN m) fun e w' => e = .returned (.bool (decide (mo < x))) ∧ ∃ m', w' = w.drewN m' := by
  have z1 := World.block_lt_of_cell? _ _ h1;have z2 := World.block_lt_of_cell? _ _ h2;have z3 := World.block_lt_of_cell? _ _ h3;have z4 := World.block_lt_of_cell? _ _ h4;have k1 : (0 : Int) ≤ (k : Int) := by omega
  have k2 : (k : Int) < (n : Int) := by omega
  obtain ⟨W, hW⟩ : ∃ W, W = w.drewN m := ⟨_, rfl⟩;have g1 : W.cell? ⟨bw, 0, none⟩ = some (.pointer (some ⟨wb, 0, none⟩)) := by rw [hW]; exact h1
  have g2 : W.cell? ⟨wb, 2, none⟩ = some (.slice (some ⟨gb, 0, none⟩) n c1) := by rw [hW]; exact h2
  have g3 : W.cell? ⟨gb, k, none⟩ = some (.int .i64 x) := by rw [hW]; exact h3
  have g4 : W.cell? ⟨xb, 0, none⟩ = some (.int .i64 mo) := by rw [hW]; exact h4
  have y1 : bw < W.heap.size := by rw [hW]; exact z1
  have y2 : wb < W.heap.size := by rw [hW]; exact z2
  have y3 : gb < W.heap.size := by rw [hW]; exact z3
  have y4 : xb < W.heap.size := by rw [hW]; exact z4
  rw [← hW];have HW := Lib.hid hW;clear hW h1 h2 h3 h4 z1 z2 z3 z4
  go_enter Try.func111, Try.ntmps111
  go_wp2_with fail
  go_quiet (fail);go_wp2_with fail
  go_ret;refine ⟨rfl, m + nq, ?_⟩;rw [HW.out];simp [World.drewN, Nat.add_assoc]
def SlPost (w : World) (cb : Nat) (L : List (Int × Int)) (h : Int) (fp : List Nat) (ok : Bool) (e : Ending) (w' : World) : Prop :=
  e = .returned (.tuple #[]) ∧ ∃ fp', SpansIn w' cb (if ok then joinS L h else L) fp' ∧ (∀ g ∈ fp', g ∈ fp ∨ w.heap.size ≤ g) ∧ Keep (cb :: fp) w w'
theorem SpansIn.drewN {w : World} {cb : Nat} {L : List (Int × Int)} {fp : List Nat} (h : SpansIn w cb L fp) (n : Nat) : SpansIn (w.drewN n) cb L fp := by
  obtain ⟨A, c, h1, h2, h3⟩ := h;exact ⟨A, c, h1, h2.drewN n, h3⟩
theorem SlPost.no {w : World} {cb : Nat} {L : List (Int × Int)} {h : Int} {fp : List Nat} {ok : Bool} (hs : SpansIn w cb L fp) (hok : ok = false) (n : Nat) : SlPost w cb L h fp ok (.returned (.tuple #[])) (w.drewN n) :=
  ⟨rfl, fp, by rw [hok]; exact hs.drewN n, fun g hg => .inl hg, (Keep.refl _ _).drewN n⟩
theorem SlPost.yes {w w1 : World} {n : Nat} {cb : Nat} {L : List (Int × Int)} {h : Int} {fp : List Nat} {ok : Bool} {e : Ending} {w' : World} (hw : w1 = w.drewN n) (hok : ok = true) (hp : JoinPost w1 cb L h fp e w') : SlPost w cb L h fp ok e w' := by
  subst hw;obtain ⟨h1, fp', h2, h3, h4⟩ := hp;exact ⟨h1, fp', by rw [hok]; exact h2, h3, ((Keep.refl _ _).drewN n).trans h4 (fun x hx => .inl hx)⟩
theorem slots2_any (cb : Nat) (L : List (Int × Int)) (fp : List Nat) (d H : Nat) (shb lfb xtb pab wbx xmb gs gl np ck : Nat) (Ak : Option Addr) (z1 z3 : Bool) (lf tg : Int) (w0 : World) (hs0 : SpansIn w0 cb L fp) (hl : L.length ≤ 100000) (hd : d < H) (hH : H ≤ 100)
    (q1 : w0.cell? ⟨shb, 0, none⟩ = some (.slice (some ⟨gs, 0, none⟩) H H)) (q2 : w0.cell? ⟨gs, d, none⟩ = some (.bool z1)) (q3 : w0.cell? ⟨lfb, 0, none⟩ = some (.slice (some ⟨gl, 0, none⟩) H H)) (q4 : w0.cell? ⟨gl, d, none⟩ = some (.int .i64 lf)) (q5 : w0.cell? ⟨xtb, 0, none⟩ = some (.int .i64 tg)) (q6 : w0.cell? ⟨pab, 0, none⟩ = some (.slice Ak np ck))
    (kc : ∀ n, Calls Try.prog 20 #[.slice Ak np ck, .func (.func 111) #[] #[.pointer (some ⟨wbx, 0, none⟩), .pointer (some ⟨xmb, 0, none⟩)]] (w0.drewN n) fun e w' => e = .returned (.bool z3) ∧ ∃ m, w' = (w0.drewN n).drewN m) :
    Calls Try.prog 110 #[.int .i64 d, .pointer (some ⟨shb, 0, none⟩), .pointer (some ⟨lfb, 0, none⟩), .pointer (some ⟨xtb, 0, none⟩), .pointer (some ⟨pab, 0, none⟩), .pointer (some ⟨wbx, 0, none⟩), .pointer (some ⟨xmb, 0, none⟩), .pointer (some ⟨cb, 0, none⟩)] w0 (SlPost w0 cb L d fp (!z1 && (!decide (lf < tg) && !z3))) := by
  obtain ⟨i0, hi, hz0, hz1, hz2⟩ := info_parts info_span;have y1 := World.block_lt_of_cell? _ _ q1;have y2 := World.block_lt_of_cell? _ _ q2;have y3 := World.block_lt_of_cell? _ _ q3;have y4 := World.block_lt_of_cell? _ _ q4;have y5 := World.block_lt_of_cell? _ _ q5;have y6 := World.block_lt_of_cell? _ _ q6;simp only at y1 y2 y3 y4 y5 y6;have hdI : (0 : Int) ≤ (d : Int) ∧ (d : Int) < (H : Int) := by omega
  have HS0 := Lib.hid hs0;have HC := Lib.hid kc;clear hs0 kc;cases z1
  · by_cases hlt : lf < tg
    · have hdt : decide (lf < tg) = true := decide_eq_true hlt
      go_enter Try.func110, Try.ntmps110
      go_upto_region 0 with fail
      go_quiet (fail);go_wp2_with fail
      go_end0
      exact SlPost.no HS0.out (by simp [hlt]) _
    · have hdt : decide (lf < tg) = false := decide_eq_false hlt;have HLT := Lib.hid hlt;clear hlt;cases z3
      · go_enter Try.func110, Try.ntmps110
        go_upto_region 0 with fail
        go_quiet ((go_at_call 20; with_reducible exact Calls.quiet_of (HC.out _)));go_upto_region 1 with fail
        obtain ⟨w, hw⟩ : ∃ w, w = w0.drewN nq := ⟨_, rfl⟩;rw [← hw];have hs : SpansIn w cb L fp := by rw [hw]; exact HS0.out.drewN _
        have HOK : Hid ((!false && (!decide (lf < tg) && !false)) = true) := Lib.hid (by rw [hdt]; rfl);have HW := Lib.hid hw;clear hw q1 q2 q3 q4 q5 q6 y1 y2 y3 y4 y5 y6 HS0 HC;obtain ⟨A, c, hh, hown, hnc⟩ := hs;have c0 : w.cell? ⟨cb, 0, none⟩ = some (.slice A L.length c) := (cOH hh 0).trans rfl;have z0 := hL_ hh;have fr := fOH hh 0;rcases List.eq_nil_or_concat L with rfl | ⟨L', s, rfl⟩
        · have HS := Lib.hid (And.intro hh (And.intro hown hnc));have hgn : ¬ (cb ∈ fp ∨ (w.alloc (.cells #[.int .i64 d, .int .i64 d] 129)).heap.size = cb) := by simp; exact ⟨hnc, by omega⟩
          clear hh hown hnc;simp only [List.length_nil] at c0
          go_wp2_with (at_builtin
                       refine wpList_append_S (size := 2) rfl (.tmp 47) (.tmp 51) 119 rfl i0 _ 16 Try.underlying119 hi hz0 hz1 (by decide) hz2 rfl (A := A) (n := 0) (c := c) (xs := []) (fp := fp) (by simp [Act.eval]) ⟨w.heap.size, 0, none⟩ (by simp [Act.eval]) [.int .i64 d, .int .i64 d] (HS.out.2.1.alloc _) rfl ?_ (by simp [Value.oneCell']) (by omega) (by omega) ?_
                       · intro j v hv;rw [show (⟨w.heap.size, 0, none⟩ : Addr).add j = ⟨w.heap.size, j, none⟩ from by simp [Addr.add]; omega, World.cell?_alloc_new];simpa using hv
                       intro g c' w1 h1 h2 h3 h4;have hb1 : w1.heap[cb]? = some (.cells #[.slice A 0 c] 119 (0, 0)) := (h4.block cb (by simp; omega) HS.out.2.2).trans (hA_ HS.out.1 _);have d0 : w1.cell? ⟨cb, 0, none⟩ = some (.slice A 0 c) := (cOH hb1 0).trans rfl;have d1 := fOH hb1 0;have HQ := Lib.hid (And.intro h1 (And.intro h2 (And.intro h4 hb1)));clear h1 h2 h3 h4 hb1)
          go_end0
          refine SlPost.yes HW.out (by first | exact HOK.out | rfl) ?_;refine ⟨rfl, [g], ⟨_, c', hS_ HQ.out.2.2.2 0 _, HQ.out.1.setCell (by simp; rintro rfl; exact hgn HQ.out.2.1) _, by simp; rintro rfl; exact hgn HQ.out.2.1⟩, ?_, ?_⟩
          · intro y hy;rw [List.mem_singleton.1 hy];exact HQ.out.2.1.imp id (fun h => by simp at h; omega)
          · exact (((Keep.refl (cb :: fp) w).alloc _).trans HQ.out.2.2.1 (fun y hy => .inl (by simp [hy]))).setCell (.inl (by simp)) _
        · obtain ⟨n, hn⟩ : ∃ n, n = L'.length := ⟨_, rfl⟩;have hn1 : (L' ++ [s]).length = n + 1 := by simp [hn]
          rw [List.concat_eq_append] at *;rw [hn1] at c0 hh hown hl;obtain ⟨g0, rfl, rfl, zg, hc, hf⟩ := hown.some_ (by omega);have hsp : spcs (L' ++ [s]) = spcs L' ++ spc s := by simp [spcs]
          have hlen := spcs_length L';rw [← hn] at hlen;have c1 : w.cell? ⟨g0, n * 2 + 1, none⟩ = some (.int .i64 s.2) := hc _ _ (by rw [hsp, List.getElem?_append_right (by omega), hlen]; simp [spc]);have f1 := hf (n * 2 + 1);have hnI : (0 : Int) ≤ (n : Int) ∧ (n : Int) ≤ 100000 := by omega
          have hgn : g0 ≠ cb := fun e => hnc (by simp [e]);obtain ⟨x, hx⟩ : ∃ x, x = s.2 := ⟨_, rfl⟩;rw [← hx] at c1;have HS := Lib.hid (And.intro hh (And.intro hown (And.intro hnc (And.intro hsp (And.intro hlen (And.intro hn hx))))));clear hh hown hnc hsp hlen hn hx hc hf hn1;by_cases hxd : x = (d : Int) - 1
          · have hxb : (x == (d : Int) - 1) = true := by simp [hxd]
            go_wp2_with fail
            go_end0
            refine SlPost.yes HW.out (by first | exact HOK.out | rfl) ?_;have hj : joinS (L' ++ [s]) (d : Int) = L' ++ [(s.1, (d : Int))] := by simp [joinS, ← HS.out.2.2.2.2.2.2, hxd]
            have hl2 : (L' ++ [(s.1, (d : Int))]).length = n + 1 := by simp [HS.out.2.2.2.2.2.1]
            refine ⟨rfl, [g0], ?_, fun y hy => .inl hy, (Keep.refl _ _).setCell (.inl (by simp)) _⟩;rw [hj];refine ⟨some ⟨g0, 0, none⟩, c, ?_, ?_, HS.out.2.2.1⟩
            · rw [hl2]; exact hSN HS.out.1 (p := ⟨g0, n * 2 + 1, none⟩) (fun e => hgn e.symm) _
            · rw [hl2];have h5 := HS.out.2.1.set_ (n * 2 + 1) (.int .i64 d);have h6 : (spcs (L' ++ [s])).set (n * 2 + 1) (.int .i64 d) = spcs (L' ++ [(s.1, (d : Int))]) := by
                rw [HS.out.2.2.2.1, spcs_append, List.set_append_right _ _ (by have := HS.out.2.2.2.2.1; omega), HS.out.2.2.2.2.1];simp [spc, spcs]
              rwa [h6] at h5
          · have hxb : (x == (d : Int) - 1) = false := by simp [hxd]
            go_wp2_with (at_builtin
                         refine wpList_append_S (size := 2) rfl (.tmp 47) (.tmp 51) 119 rfl i0 _ 16 Try.underlying119 hi hz0 hz1 (by decide) hz2 rfl (A := some ⟨g0, 0, none⟩) (n := n + 1) (c := c) (xs := spcs (L' ++ [s])) (fp := [g0]) (by simp [Act.eval]) ⟨w.heap.size, 0, none⟩ (by simp [Act.eval]) [.int .i64 d, .int .i64 d] (HS.out.2.1.alloc _) rfl ?_ (by simp [Value.oneCell']) (by omega) (by omega) ?_
                         · intro j v hv;rw [show (⟨w.heap.size, 0, none⟩ : Addr).add j = ⟨w.heap.size, j, none⟩ from by simp [Addr.add]; omega, World.cell?_alloc_new];simpa using hv
                         intro g c' w1 h1 h2 h3 h4;have hb1 : w1.heap[cb]? = some (.cells #[.slice (some ⟨g0, 0, none⟩) (n + 1) c] 119 (0, 0)) := (h4.block cb (by simp; omega) HS.out.2.2.1).trans (hA_ HS.out.1 _);have d0 : w1.cell? ⟨cb, 0, none⟩ = some (.slice (some ⟨g0, 0, none⟩) (n + 1) c) := (cOH hb1 0).trans rfl;have d1 := fOH hb1 0;have HQ := Lib.hid (And.intro h1 (And.intro h2 (And.intro h4 hb1)));clear h1 h2 h3 h4 hb1)
            go_end0
            refine SlPost.yes HW.out (by first | exact HOK.out | rfl) ?_;have hgc : ¬ (cb ∈ [g0] ∨ (w.alloc (.cells #[.int .i64 d, .int .i64 d] 129)).heap.size = cb) := by simp; exact ⟨fun e => hgn e.symm, by omega⟩
            have hj : joinS (L' ++ [s]) (d : Int) = (L' ++ [s]) ++ [((d : Int), (d : Int))] := by
              simp only [joinS, List.getLast?_append, List.getLast?_singleton, Option.some_or];rw [if_neg (by rw [← HS.out.2.2.2.2.2.2]; exact hxd)]
            have hl2 : ((L' ++ [s]) ++ [((d : Int), (d : Int))]).length = n + 1 + 1 := by simp [HS.out.2.2.2.2.2.1]
            refine ⟨rfl, [g], ?_, ?_, ?_⟩
            · rw [hj];refine ⟨some ⟨g, 0, none⟩, c', ?_, ?_, by simp; rintro rfl; exact hgc HQ.out.2.1⟩
              · rw [hl2]; exact hS_ HQ.out.2.2.2 0 _
              · rw [hl2, spcs_append]; exact HQ.out.1.setCell (by simp; rintro rfl; exact hgc HQ.out.2.1) _
            · intro y hy;rw [List.mem_singleton.1 hy];exact HQ.out.2.1.imp id (fun h => by simp at h; omega)
            · exact (((Keep.refl (cb :: [g0]) w).alloc _).trans HQ.out.2.2.1 (fun y hy => .inl (by simp at hy ⊢; exact .inr hy))).setCell (.inl (by simp)) _
      · go_enter Try.func110, Try.ntmps110
        go_upto_region 0 with fail
        go_quiet ((go_at_call 20; with_reducible exact Calls.quiet_of (HC.out _)));go_wp2_with fail
        go_end0
        exact SlPost.no HS0.out (by simp) _
  · go_enter Try.func110, Try.ntmps110
    go_upto_region 0 with fail
    go_quiet (fail);go_wp2_with fail
    go_end0
    exact SlPost.no HS0.out (by simp) _
end Go.Proofs.Ythmldeningpjbaa
