/- The walk of RestrictWithin. -/
import Derived.Test.YtfmhlnfcbbpfeaaLawKit
import Derived.Test.YtfmhlnfcbbpfeaaLower
import Derived.Test.YtfmhlnfcbbpfeaaSure
namespace Go.Proofs.Ytfmhlnfcbbpfeaa
open Go Go.RowKit Sp
set_option linter.unusedVariables false

/-- two lists of the call's own, one of structs, one of numbers -/
structure TwL (W0 wr : World) (e1 : TypeId) (sz : Nat) (A1 : Option Addr) (n1 c1 : Nat) (xs1 : List Value) (q1 : List Nat) (e2 : TypeId) (A2 : Option Addr) (n2 c2 : Nat) (xs2 : List Value) (q2 : List Nat) : Prop where
  o1 : OwnS wr e1 sz A1 n1 c1 xs1 q1
  o2 : OwnA wr e2 A2 n2 c2 xs2 q2
  dis : ∀ g ∈ q1, g ∉ q2
  in1 : ∀ g ∈ q1, W0.heap.size ≤ g
  in2 : ∀ g ∈ q2, W0.heap.size ≤ g
  kp : Keep [] W0 wr
section
variable {W0 wr : World} {e1 : TypeId} {sz : Nat} {A1 : Option Addr} {n1 c1 : Nat} {xs1 : List Value} {q1 : List Nat} {e2 : TypeId} {A2 : Option Addr} {n2 c2 : Nat} {xs2 : List Value} {q2 : List Nat}
theorem TwL.start (W0 : World) (e1 : TypeId) (sz : Nat) (e2 : TypeId) : TwL W0 W0 e1 sz none 0 0 [] [] e2 none 0 0 [] [] := ⟨OwnS.nil _ _ _, OwnA.nil _ _, by simp, by simp, by simp, Keep.refl _ _⟩
theorem TwL.app1 (h : TwL W0 wr e1 sz A1 n1 c1 xs1 q1 e2 A2 n2 c2 xs2 q2) {wm w1 : World} (hm : Keep [] wr wm) {A' : Option Addr} {n' c' g : Nat} {xs' : List Value} (h1 : OwnS w1 e1 sz A' n' c' xs' [g]) (h2 : g ∈ q1 ∨ wr.heap.size ≤ g) (h4 : Keep q1 wm w1) :
    TwL W0 w1 e1 sz A' n' c' xs' [g] e2 A2 n2 c2 xs2 q2 := by
  refine ⟨h1, (h.o2.keepS hm (by simp)).keepS h4 (fun x hx hm => h.dis x hm hx), ?_, ?_, h.in2, (h.kp.trans hm (by simp)).trans h4 (fun x hx => .inr (h.in1 x hx))⟩
  · intro x hx hm
    rw [List.mem_singleton.1 hx] at hm
    rcases h2 with h2 | h2
    · exact h.dis g h2 hm
    · have := h.o2.lt _ hm; omega
  · intro x hx
    rw [List.mem_singleton.1 hx]
    rcases h2 with h2 | h2
    · exact h.in1 g h2
    · have := h.kp.size; omega
theorem TwL.app2 (h : TwL W0 wr e1 sz A1 n1 c1 xs1 q1 e2 A2 n2 c2 xs2 q2) {wm w1 : World} (hm : Keep [] wr wm) {A' : Option Addr} {n' c' g : Nat} {xs' : List Value} (h1 : OwnA w1 e2 A' n' c' xs' [g]) (h2 : g ∈ q2 ∨ wr.heap.size ≤ g) (h4 : Keep q2 wm w1) :
    TwL W0 w1 e1 sz A1 n1 c1 xs1 q1 e2 A' n' c' xs' [g] := by
  refine ⟨(h.o1.keepS hm (by simp)).keepS h4 h.dis, h1, ?_, h.in1, ?_, (h.kp.trans hm (by simp)).trans h4 (fun x hx => .inr (h.in2 x hx))⟩
  · intro x hx hm
    have e : x = g := List.mem_singleton.1 hm
    rcases h2 with h2 | h2
    · exact h.dis x hx (by rw [e]; exact h2)
    · have := h.o1.lt _ hx; omega
  · intro x hx
    rw [List.mem_singleton.1 hx]
    rcases h2 with h2 | h2
    · exact h.in2 g h2
    · have := h.kp.size; omega
end

/-- the part of a span that a number takes -/
def partAt (l : List Int) (k : Nat) : Int := if l.length = 0 then 0 else l.getD (k % l.length) 0
def inSpan (lo hi x : Int) : Int := lo + x % (hi - lo + 1)
theorem inSpan_in {lo hi : Int} (h : lo ≤ hi) (x : Int) : lo ≤ inSpan lo hi x ∧ inSpan lo hi x ≤ hi := by
  have h1 := Int.emod_nonneg x (show hi - lo + 1 ≠ 0 by omega)
  have h2 := Int.emod_lt_of_pos x (show 0 < hi - lo + 1 by omega)
  unfold inSpan; omega
def spanL (low high : List Int) (k : Nat) : List (Int × Int) := (List.range k).map fun i => (low.getD i 0, high.getD i 0)
def dayL (low high part : List Int) (k : Nat) : List Int := (List.range k).map fun i => inSpan (low.getD i 0) (high.getD i 0) (partAt part i)
theorem spanL_succ (low high : List Int) (k : Nat) : spanL low high (k + 1) = spanL low high k ++ [(low.getD k 0, high.getD k 0)] := by simp [spanL, List.range_succ]
theorem dayL_succ (low high part : List Int) (k : Nat) : dayL low high part (k + 1) = dayL low high part k ++ [inSpan (low.getD k 0) (high.getD k 0) (partAt part k)] := by simp [dayL, List.range_succ]
theorem spanL_length (low high : List Int) (k : Nat) : (spanL low high k).length = k := by simp [spanL]
theorem dayL_length (low high part : List Int) (k : Nat) : (dayL low high part k).length = k := by simp [dayL]
theorem map_range_getD (l : List Int) : (List.range l.length).map (fun i => l.getD i 0) = l := by
  apply List.ext_getElem
  · simp
  · intro i h1 h2; simp [h2]
theorem spanL_lo {low high : List Int} {n : Nat} (h : low.length = n) : (spanL low high n).map (·.1) = low := by
  subst h; simp only [spanL, List.map_map]; exact map_range_getD low
theorem spanL_hi {low high : List Int} {n : Nat} (h : high.length = n) : (spanL low high n).map (·.2) = high := by
  subst h; simp only [spanL, List.map_map]; exact map_range_getD high
theorem dayL_get {low high part : List Int} {n k : Nat} (h : k < n) : (dayL low high part n).getD k 0 = inSpan (low.getD k 0) (high.getD k 0) (partAt part k) := by simp [dayL, h]
theorem spanL_ok {p : Pol} {low high : List Int} {n : Nat} (hc : checkS p = 0) (h1 : low.length = n) (h2 : high.length = n) (hn : n ≤ 400) (ho1 : DaysOk low) (ho2 : DaysOk high) (hl : LeL low high) : spnE p (spanL low high n) = 0 := by
  refine spn_ok (by rw [start_nil]; exact hc) (by rw [spanL_length]; omega) fun s hs => ?_
  simp only [spanL, List.mem_map, List.mem_range] at hs
  obtain ⟨i, hi, rfl⟩ := hs
  have a1 := getD_all ho1 (show 0 ≤ (0 : Int) ∧ (0 : Int) ≤ 2000 by decide) i
  have a2 := getD_all ho2 (show 0 ≤ (0 : Int) ∧ (0 : Int) ≤ 2000 by decide) i
  have a3 := hl.2 i (by omega)
  exact badSpn_no (by simp only [within, Bool.and_eq_true, decide_eq_true_eq]; omega) (by simp only [within, Bool.and_eq_true, decide_eq_true_eq]; omega)

set_option maxRecDepth 100000 in
set_option maxHeartbeats 4000000 in
theorem within_law (A1 : Option Addr) (c1 : Nat) (l1 : List Int) (A2 : Option Addr) (c2 : Nat) (l2 : List Int) (A3 : Option Addr) (c3 : Nat) (l3 : List Int) (A4 : Option Addr) (c4 : Nat) (l4 : List Int) (cl tn : Int) (w : World) (hr1 : Rd w 1 A1 l1.length (byts l1)) (hl1 : Bytes l1) (hm1 : l1.length ≤ 9223372036854775800) (hr2 : Rd w 1 A2 l2.length (byts l2)) (hl2 : Bytes l2) (hm2 : l2.length ≤ 9223372036854775800) (hr3 : Rd w 1 A3 l3.length (byts l3)) (hl3 : Bytes l3) (hm3 : l3.length ≤ 9223372036854775800)
    (hr4 : Rd w 1 A4 l4.length (byts l4)) (hl4 : Bytes l4) (hm4 : l4.length ≤ 9223372036854775800) (h1 : 0 ≤ cl ∧ cl ≤ 255) (h2 : 0 ≤ tn ∧ tn ≤ 255) :
    Calls Try.prog 10 #[.slice A1 l1.length c1, .slice A2 l2.length c2, .slice A3 l3.length c3, .slice A4 l4.length c4, .int .u8 cl, .int .u8 tn] w fun e w' => e = .returned (.bool true) ∧ Below w.heap.size w w' := by
  have H0 := Lib.hid (And.intro hr1 (And.intro hl1 (And.intro hm1 (And.intro hr2 (And.intro hl2 hm2)))))
  have H03 := Lib.hid (And.intro hr3 (And.intro hl3 hm3))
  have H04 := Lib.hid (And.intro hr4 hl4)
  clear hr1 hl1 hm1 hr2 hl2 hm2 hr3 hl3 hm3 hr4 hl4
  go_enter Try.func10, Try.ntmps10
  go_wp2_with fail
  refine (Made_any A1 c1 l1 w H0.out.1 H0.out.2.1 (by have := H0.out.2.2.1; omega)).mono ?_
  rintro e w1 ⟨As, cs, rfl, hp1, b1⟩
  obtain ⟨p, hp⟩ : ∃ p, p = madeP l1 := ⟨_, rfl⟩
  rw [← hp] at hp1 ⊢
  have HP := Lib.hid (And.intro hp (And.intro hp1 b1))
  clear hp hp1 b1
  go_wp2_with fail
  refine (past_own A2 c2 l2 w1 (H0.out.2.2.2.1.below HP.out.2.2) H0.out.2.2.2.2.1 H0.out.2.2.2.2.2).mono ?_
  rintro e w2 ⟨Ad, cd, days, qd, rfl, hod, hok, hl90, b2⟩
  have hck : checkS p = 0 := by rw [HP.out.1]; exact made_check' l1
  have hst : startS p days = 0 := start_zero hck hok (by omega)
  have pd0 : PD w _ _ As cs p Ad days := PD.new (HP.out.2.1.below b2) hod.rd (HP.out.2.2.trans (b2.mono HP.out.2.2.size))
  have hcd := hod.ge
  have hmd := hod.cap
  have HD := Lib.hid (And.intro hck (And.intro hst (And.intro hok (fun h => (hod.nil_cap h).1))))
  clear hod hok b2 hck hst
  go_upto_region 2 with fail
  obtain ⟨W, hW⟩ : ∃ W, W = w2.alloc (.cells #[.slice As p.steps.length cs, .int .i64 p.hold, .int .i64 p.calm, .int .i64 p.notice, .int .i64 p.grace] 25) := ⟨_, rfl⟩
  obtain ⟨pb, hpb⟩ : ∃ pb, pb = w2.heap.size := ⟨_, rfl⟩
  rw [← hW, ← hpb] at pd0 ⊢
  have HPD := Lib.hid pd0
  clear hW hpb pd0
  go_wp2_with fail
  refine (lower_any Ad cd days A3 c3 l3 W HPD.out.dys HD.out.2.2.2 (by omega) HD.out.2.2.1 (H03.out.1.below HPD.out.bel) H03.out.2.1 H03.out.2.2).mono ?_
  rintro e X1 ⟨Al, cl1, low, ql, rfl, hll, hol, hle, hlok, _, b1⟩
  have pdd := HPD.out.below b1
  have pdl : PD w X1 pb As cs p Al low := ⟨pdd.blk, pdd.pol, by rw [hll]; exact hol.rd, pdd.bel⟩
  have hsl : startS p low = 0 := start_zero HD.out.1 hlok (by omega)
  have HX1 := Lib.hid (And.intro pdd (And.intro pdl (And.intro hsl (And.intro hle (And.intro hll hlok)))))
  clear pdd pdl hsl hle hlok hol b1 hll
  go_wp2_with fail
  obtain ⟨i0, hi, hz0, hz1, hz2⟩ := info_parts info_span
  obtain ⟨j0, ji, jz0, jz1, jz2⟩ := info_parts info_int
  go_loopw [16, 17, 46] (fun o1 o2 i wr => ∃ (k : Nat) (B1 : Option Addr) (d1 : Nat) (q1 : List Nat) (B2 : Option Addr) (d2 : Nat) (q2 : List Nat), k ≤ days.length ∧ i = .int .i64 k ∧ o1 = .slice B1 k d1 ∧ o2 = .slice B2 k d2 ∧
    TwL X1 wr 42 2 B1 k d1 (spcs (spanL low days k)) q1 3 B2 k d2 (ints (dayL low days l4 k)) q2) (fun _ _ i _ => days.length - (intOf i).toNat)
  case atStart => exact ⟨0, none, 0, [], none, 0, [], Nat.zero_le _, rfl, rfl, rfl, TwL.start _ _ _ _⟩
  case round =>
    obtain ⟨k, B1, d1, q1, B2, d2, q2, hk, rfl, rfl, rfl, hT⟩ := hrel
    by_cases hlt : k < days.length
    · obtain ⟨bd, od, rfl, zbd, kd⟩ := HX1.out.1.dys.2 (by omega)
      obtain ⟨bl, ol, rfl, zbl, kl⟩ := HX1.out.2.1.dys.2 (by rw [HX1.out.2.2.2.2.1]; omega)
      obtain ⟨x, hx⟩ : ∃ y, y = low.getD k 0 := ⟨_, rfl⟩
      obtain ⟨y, hy⟩ : ∃ y, y = days.getD k 0 := ⟨_, rfl⟩
      have cx1 : X1.cell? ⟨bl, ol + k, none⟩ = some (.int .i64 x) := kl k _ (by rw [hx]; exact ints_get (by rw [HX1.out.2.2.2.2.1]; exact hlt))
      have HXC := Lib.hid cx1
      have cx : wr.cell? ⟨bl, ol + k, none⟩ = some (.int .i64 x) := hT.kp.cell cx1 (by simp)
      clear cx1
      have cy : wr.cell? ⟨bd, od + k, none⟩ = some (.int .i64 y) := hT.kp.cell (kd k _ (by rw [hy]; exact ints_get hlt)) (by simp)
      have hbx := getD_all HX1.out.2.2.2.2.2 (show 0 ≤ (0 : Int) ∧ (0 : Int) ≤ 2000 by decide) k
      have hby := getD_all HD.out.2.2.1 (show 0 ≤ (0 : Int) ∧ (0 : Int) ≤ 2000 by decide) k
      have hxy := HX1.out.2.2.2.1.2 k (by rw [HX1.out.2.2.2.2.1]; exact hlt)
      rw [← hx] at hbx hxy
      rw [← hy] at hby hxy
      have HT := Lib.hid (And.intro hT (And.intro hx hy))
      clear hT hx hy kd kl
      rcases Nat.eq_zero_or_pos l4.length with h40 | h40
      · have hpa : partAt l4 k = 0 := by rw [partAt, if_pos h40]
        have HPA := Lib.hid hpa
        have h40' : l4.length ≤ 0 := by omega
        clear hpa h40
        go_wp2_with (at_builtin
                     refine wpList_append_S (size := 2) rfl (.tmp 51) (.tmp 58) 61 rfl i0 _ 16 Try.underlying61 hi hz0 hz1 (by decide) hz2 rfl (A := B1) (n := k) (c := d1) (xs := spcs (spanL low days k)) (fp := q1) (by simp [Act.eval]) ⟨wr.heap.size, 0, none⟩ (by simp [Act.eval]) [.int .i64 x, .int .i64 y] (HT.out.1.o1.alloc _) rfl ?_ (by simp [Value.oneCell']) (by omega) (by omega) ?_
                     · intro j v hv
                       rw [show (⟨wr.heap.size, 0, none⟩ : Addr).add j = ⟨wr.heap.size, j, none⟩ from by simp [Addr.add]; omega, World.cell?_alloc_new]
                       simpa using hv
                     intro g c' w5 h1 h2 h3 h4
                     have hT2 : TwL X1 w5 42 2 (some ⟨g, 0, none⟩) (k + 1) c' (spcs (spanL low days (k + 1))) [g] 3 B2 k d2 (ints (dayL low days l4 k)) q2 :=
                       HT.out.1.app1 ((Keep.refl [] wr).alloc _) (by rw [spanL_succ, spcs_append, ← HT.out.2.1, ← HT.out.2.2]; simpa [spcs, spc] using h1) (h2.imp id (fun h => by simp at h; omega)) h4
                     have HT2 := Lib.hid hT2
                     clear h1 h2 h3 h4 hT2)
        have n1 : (0 : Int) ≤ (k : Int) := by omega
        have n2 : (k : Int) < (days.length : Int) := by omega
        have bw5 : Below X1.heap.size X1 w5 := HT2.out.kp.below (Nat.le_refl _) (by simp)
        have gx : ∀ w', Keep q2 w5 w' → w'.cell? ⟨bl, ol + k, none⟩ = some (.int .i64 x) := fun w' hk => hk.cell ((bw5.cell (p := ⟨bl, ol + k, none⟩) zbl).trans HXC.out) (fun hm => by have := HT2.out.in2 _ hm; omega)
        have hne : ¬ (y - x + 1 = 0) := by omega
        have hk12 : k + 1 ≤ 1000000000000 := by omega
        obtain ⟨r1, r2, r5⟩ : IntKind.i64.wrap (y - x) = y - x ∧ IntKind.i64.wrap (y - x + 1) = y - x + 1 ∧ IntKind.i64.wrap x = x := ⟨IntWalk.i64_in _ (by omega), IntWalk.i64_in _ (by omega), IntWalk.i64_in _ (by omega)⟩
        have HBW := Lib.hid bw5
        clear bw5
        go_region_held3 (fun w' => Keep q2 w5 w') (first | exact (Keep.refl _ _).drew | assumption | exact ((Keep.refl _ _).drew).alloc _)
          (first
            | (refine step_append_A rfl (.tmp 71) (.tmp 86) 27 rfl j0 _ 8 Try.underlying27 ji jz0 jz1 jz2 rfl (A := B2) (n := k) (c := d2) (xs := ints (dayL low days l4 k)) (fp := q2) (by simp [Act.eval]) _ (by simp [Act.eval]) (.int .i64 x) ((HT2.out.o2.keepS ((Keep.refl [] w5).drew) (by simp)).alloc _) (cell_new_one _ _ _) rfl hk12 (by decide) ?_
               intro g2 off2 e2 w6 h1 h2 h3 h4
               have HQ := Lib.hid (And.intro h1 (And.intro h2 h4))
               have K3 : Keep q2 w5 w6 := (((Keep.refl q2 w5).drew).alloc _).trans h4 (fun y hy => .inl hy)
               clear h1 h2 h3 h4))
        clear r1 r2 r5 gx
        go_wp2_with fail
        go_roundw
        case measure => simp [intOf]; omega
        case rel =>
          obtain ⟨h1, h2, h4⟩ := HQ.out
          refine ⟨k + 1, _, _, [g], some ⟨g2, off2, none⟩, e2, [g2], by omega, by go_num, rfl, rfl, HT2.out.app2 (((Keep.refl [] w5).drew).alloc _) ?_ (h2.imp id (fun h => by simp at h; omega)) h4⟩
          rw [dayL_succ, HPA.out, ← HT.out.2.1, ← HT.out.2.2]
          simpa [ints, inSpan] using h1
      · obtain ⟨b4, o4, rfl, z4, k4⟩ := H04.out.1.2 (by omega)
        have hkl : k % l4.length < l4.length := Nat.mod_lt _ h40
        obtain ⟨kk, hkk⟩ : ∃ y, y = l4.getD (k % l4.length) 0 := ⟨_, rfl⟩
        have c4' : X1.cell? ⟨b4, o4 + k % l4.length, none⟩ = some (.int .u8 kk) := by
          rw [hkk]
          exact (HX1.out.1.bel.cell (p := ⟨b4, o4 + k % l4.length, none⟩) z4).trans (k4 _ _ (by simp [byts, hkl]))
        have HC4 := Lib.hid c4'
        clear c4'
        have hkb : 0 ≤ kk ∧ kk ≤ 255 := by rw [hkk]; exact getD_all H04.out.2 (by decide) _
        have hpa : partAt l4 k = kk := by rw [partAt, if_neg (by omega), hkk]
        have HPA := Lib.hid hpa
        have m0 : ((k : Int) % (l4.length : Int)).toNat = k % l4.length := by omega
        clear hpa k4 hkk
        go_wp2_with (at_builtin
                     refine wpList_append_S (size := 2) rfl (.tmp 51) (.tmp 58) 61 rfl i0 _ 16 Try.underlying61 hi hz0 hz1 (by decide) hz2 rfl (A := B1) (n := k) (c := d1) (xs := spcs (spanL low days k)) (fp := q1) (by simp [Act.eval]) ⟨wr.heap.size, 0, none⟩ (by simp [Act.eval]) [.int .i64 x, .int .i64 y] (HT.out.1.o1.alloc _) rfl ?_ (by simp [Value.oneCell']) (by omega) (by omega) ?_
                     · intro j v hv
                       rw [show (⟨wr.heap.size, 0, none⟩ : Addr).add j = ⟨wr.heap.size, j, none⟩ from by simp [Addr.add]; omega, World.cell?_alloc_new]
                       simpa using hv
                     intro g c' w5 h1 h2 h3 h4
                     have hT2 : TwL X1 w5 42 2 (some ⟨g, 0, none⟩) (k + 1) c' (spcs (spanL low days (k + 1))) [g] 3 B2 k d2 (ints (dayL low days l4 k)) q2 :=
                       HT.out.1.app1 ((Keep.refl [] wr).alloc _) (by rw [spanL_succ, spcs_append, ← HT.out.2.1, ← HT.out.2.2]; simpa [spcs, spc] using h1) (h2.imp id (fun h => by simp at h; omega)) h4
                     have c5 := hT2.kp.cell HC4.out (by simp)
                     have HT2 := Lib.hid hT2
                     clear h1 h2 h3 h4 hT2)
        have n1 : (0 : Int) ≤ (k : Int) := by omega
        have n2 : (k : Int) < (days.length : Int) := by omega
        have bw5 : Below X1.heap.size X1 w5 := HT2.out.kp.below (Nat.le_refl _) (by simp)
        have gx : ∀ w', Keep q2 w5 w' → w'.cell? ⟨bl, ol + k, none⟩ = some (.int .i64 x) := fun w' hk => hk.cell ((bw5.cell (p := ⟨bl, ol + k, none⟩) zbl).trans HXC.out) (fun hm => by have := HT2.out.in2 _ hm; omega)
        have hne : ¬ (y - x + 1 = 0) := by omega
        have r6 := inSpan_in hxy kk
        unfold inSpan at r6
        have r7 : 0 ≤ kk % (y - x + 1) ∧ kk % (y - x + 1) ≤ 5000 := by omega
        have hk12 : k + 1 ≤ 1000000000000 := by omega
        obtain ⟨r1, r2, r3, r4, r5⟩ : IntKind.i64.wrap (y - x) = y - x ∧ IntKind.i64.wrap (y - x + 1) = y - x + 1 ∧ Int.tmod kk (y - x + 1) = kk % (y - x + 1) ∧ IntKind.i64.wrap (kk % (y - x + 1)) = kk % (y - x + 1) ∧ IntKind.i64.wrap (x + kk % (y - x + 1)) = x + kk % (y - x + 1) :=
          ⟨IntWalk.i64_in _ (by omega), IntWalk.i64_in _ (by omega), Int.tmod_eq_emod_of_nonneg (by omega), IntWalk.i64_in _ (by omega), IntWalk.i64_in _ (by omega)⟩
        clear r6 r7
        have HBW := Lib.hid bw5
        clear bw5
        go_region_held3 (fun w' => Keep q2 w5 w') (first | exact (Keep.refl _ _).drew | assumption | exact ((Keep.refl _ _).drew).alloc _)
          (first
            | (refine step_append_A rfl (.tmp 71) (.tmp 86) 27 rfl j0 _ 8 Try.underlying27 ji jz0 jz1 jz2 rfl (A := B2) (n := k) (c := d2) (xs := ints (dayL low days l4 k)) (fp := q2) (by simp [Act.eval]) _ (by simp [Act.eval]) (.int .i64 (x + kk % (y - x + 1))) ((HT2.out.o2.keepS ((Keep.refl [] w5).drew) (by simp)).alloc _) (cell_new_one _ _ _) rfl hk12 (by decide) ?_
               intro g2 off2 e2 w6 h1 h2 h3 h4
               have HQ := Lib.hid (And.intro h1 (And.intro h2 h4))
               have K3 : Keep q2 w5 w6 := (((Keep.refl q2 w5).drew).alloc _).trans h4 (fun y hy => .inl hy)
               clear h1 h2 h3 h4))
        clear r1 r2 r3 r4 r5 gx
        go_wp2_with fail
        go_roundw
        case measure => simp [intOf]; omega
        case rel =>
          obtain ⟨h1, h2, h4⟩ := HQ.out
          refine ⟨k + 1, _, _, [g], some ⟨g2, off2, none⟩, e2, [g2], by omega, by go_num, rfl, rfl, HT2.out.app2 (((Keep.refl [] w5).drew).alloc _) ?_ (h2.imp id (fun h => by simp at h; omega)) h4⟩
          rw [dayL_succ, HPA.out, ← HT.out.2.1, ← HT.out.2.2]
          simpa [ints, inSpan] using h1
    · obtain rfl : k = days.length := by omega
      obtain ⟨dd1, rfl⟩ : ∃ y, y = d1 := ⟨_, rfl⟩
      have hlr : low.length = days.length := HX1.out.2.2.2.2.1
      obtain ⟨sp, hsp⟩ : ∃ y, y = spanL low days days.length := ⟨_, rfl⟩
      obtain ⟨mid, hmid⟩ : ∃ y, y = dayL low days l4 days.length := ⟨_, rfl⟩
      have hsl : sp.length = days.length := by rw [hsp, spanL_length]
      have hml : mid.length = days.length := by rw [hmid, dayL_length]
      have hin : ∀ k : Nat, k < days.length → low.getD k 0 ≤ mid.getD k 0 ∧ mid.getD k 0 ≤ days.getD k 0 := fun k hk => by
        rw [hmid, dayL_get hk]
        exact inSpan_in (HX1.out.2.2.2.1.2 k (by rw [hlr]; exact hk)) _
      have hlm : LeL low mid := ⟨by rw [hlr, hml], fun k hk => (hin k (by rw [← hlr]; exact hk)).1⟩
      have hmd2 : LeL mid days := ⟨hml, fun k hk => (hin k (by rw [← hml]; exact hk)).2⟩
      have hmok : DaysOk mid := fun x hx => by
        obtain ⟨i, hi, rfl⟩ := List.mem_iff_getElem.1 hx
        have h1 := hin i (by rw [← hml]; exact hi)
        rw [List.getD_eq_getElem?_getD (l := mid), List.getElem?_eq_getElem hi, Option.getD_some] at h1
        have h2 := getD_all HX1.out.2.2.2.2.2 (show 0 ≤ (0 : Int) ∧ (0 : Int) ≤ 2000 by decide) i
        have h3 := getD_all HD.out.2.2.1 (show 0 ≤ (0 : Int) ∧ (0 : Int) ≤ 2000 by decide) i
        omega
      have hsm : startS p mid = 0 := start_zero HD.out.1 hmok (by omega)
      have hse : spnE p sp = 0 := by rw [hsp]; exact spanL_ok HD.out.1 hlr rfl (by omega) HX1.out.2.2.2.2.2 HD.out.2.2.1 HX1.out.2.2.2.1
      have hs1 : sp.map (·.1) = low := by rw [hsp]; exact spanL_lo hlr
      have hs2 : sp.map (·.2) = days := by rw [hsp]; exact spanL_hi rfl
      have ck := check_ok HD.out.1
      have f1 := force_mono ck.2.2.1 ck.2.2.2.2.1 ck.2.2.2.2.2.2.1 hlm
      have f2 := force_mono ck.2.2.1 ck.2.2.2.2.1 ck.2.2.2.2.2.2.1 hmd2
      have bT := hT.kp.below (Nat.le_refl _) (by simp)
      have pdd := HX1.out.1.below bT
      have pdl := HX1.out.2.1.below bT
      rw [← hsp, ← hmid] at hT
      have rsp : Rd wr 2 B1 sp.length (spcs sp) := by rw [hsl]; exact hT.o1.rd
      have pdm : PD w wr pb As cs p B2 mid := ⟨pdd.blk, pdd.pol, by rw [hml]; exact hT.o2.rd, pdd.bel⟩
      have HL := Lib.hid (And.intro hsl (And.intro hml (And.intro hlm (And.intro hmd2 (And.intro hsm (And.intro hse (And.intro hs1 (And.intro hs2 (And.intro f1 f2)))))))))
      obtain ⟨q0, q1', q2', q3, q4, zp⟩ := pdd.cells
      have HW := Lib.hid (And.intro pdd (And.intro pdl (And.intro rsp pdm)))
      clear hT pdd pdl rsp pdm bT hsp hmid hsl hml hin hlm hmd2 hmok hsm hse hs1 hs2 ck f1 f2
      -- the four lists
      have kb : ∀ X, Below wr.heap.size wr X → Calls Try.prog 55 #[.agg #[.slice As p.steps.length cs, .int .i64 p.hold, .int .i64 p.calm, .int .i64 p.notice, .int .i64 p.grace], .slice B1 days.length dd1] X
          fun e w' => ∃ A1 c1, e = .returned (.tuple #[.slice A1 days.length c1, .int .i64 0]) ∧ Rd w' 2 A1 days.length (spcs (bndS p sp)) ∧ Below X.heap.size X w' := by
        intro X hX
        have := Bounds_any As cs p B1 dd1 sp X (HW.out.1.pol.below hX) (HW.out.2.2.1.below hX) (by rw [HL.out.1]; omega)
        rw [HL.out.1] at this
        refine this.mono ?_
        rintro e w' ⟨A1, n, c1, rfl, hB, h0, _⟩
        obtain ⟨rfl, hr⟩ := h0 HL.out.2.2.2.2.2.1
        rw [HL.out.1] at *
        exact ⟨A1, c1, by rw [HL.out.2.2.2.2.2.1], hr, hB⟩
      have KB := Lib.hid kb
      clear kb
      go_wp2_with fail
      refine (KB.out _ (Below.refl _ _)).mono ?_
      rintro e Y1 ⟨Ab, cb, rfl, rb, b1⟩
      have HY1 := Lib.hid (And.intro (HW.out.1.below b1) (And.intro (HW.out.2.1.below b1) (And.intro (HW.out.2.2.1.below b1) (And.intro (HW.out.2.2.2.below b1) rb))))
      clear q0 q1' q2' q3 q4 zp rb b1
      obtain ⟨q0, q1', q2', q3, q4, zp⟩ := HY1.out.1.cells
      have k2 : ∀ X, PD w X pb As cs p B2 mid → Calls Try.prog 21 #[.agg #[.slice As p.steps.length cs, .int .i64 p.hold, .int .i64 p.calm, .int .i64 p.notice, .int .i64 p.grace], .slice B2 days.length d2] X
          fun e w' => ∃ A1 c1, e = .returned (.tuple #[.slice A1 days.length c1, .int .i64 0]) ∧ Rd w' 1 A1 days.length (ints (forceS p mid)) ∧ Below X.heap.size X w' := by
        intro X hX
        have := for_ok d2 HL.out.2.2.2.2.1 hX (by rw [HL.out.2.1]; omega)
        rwa [HL.out.2.1] at this
      have k3 : ∀ X, PD w X pb As cs p Al low → Calls Try.prog 21 #[.agg #[.slice As p.steps.length cs, .int .i64 p.hold, .int .i64 p.calm, .int .i64 p.notice, .int .i64 p.grace], .slice Al days.length cl1] X
          fun e w' => ∃ A1 c1, e = .returned (.tuple #[.slice A1 days.length c1, .int .i64 0]) ∧ Rd w' 1 A1 days.length (ints (forceS p low)) ∧ Below X.heap.size X w' := by
        intro X hX
        have := for_ok cl1 HX1.out.2.2.1 hX (by rw [HX1.out.2.2.2.2.1]; omega)
        rwa [HX1.out.2.2.2.2.1] at this
      have K2 := Lib.hid (And.intro k2 k3)
      clear k2 k3
      go_wp2_with fail
      refine (K2.out.1 _ HY1.out.2.2.2.1).mono ?_
      rintro e Y2 ⟨Am, cm, rfl, rm, b2⟩
      have HY2 := Lib.hid (And.intro (HY1.out.1.below b2) (And.intro (HY1.out.2.1.below b2) (And.intro (HY1.out.2.2.1.below b2) (And.intro (HY1.out.2.2.2.1.below b2) (And.intro (HY1.out.2.2.2.2.below b2) rm)))))
      clear q0 q1' q2' q3 q4 zp rm b2
      obtain ⟨q0, q1', q2', q3, q4, zp⟩ := HY2.out.1.cells
      go_wp2_with fail
      refine (K2.out.2 _ HY2.out.2.1).mono ?_
      rintro e Y3 ⟨Ao, co, rfl, ro, b3⟩
      have HY3 := Lib.hid (And.intro (HY2.out.1.below b3) (And.intro (HY2.out.2.1.below b3) (And.intro (HY2.out.2.2.1.below b3) (And.intro (HY2.out.2.2.2.1.below b3) (And.intro (HY2.out.2.2.2.2.1.below b3) (And.intro (HY2.out.2.2.2.2.2.below b3) ro))))))
      clear q0 q1' q2' q3 q4 zp ro b3
      obtain ⟨q0, q1', q2', q3, q4, zp⟩ := HY3.out.1.cells
      go_wp2_with fail
      refine (for_ok cd HD.out.2.1 HY3.out.1 (by omega)).mono ?_
      rintro e Y4 ⟨Ah, ch, rfl, rh, b4⟩
      have HY4 := Lib.hid (And.intro (HY3.out.1.below b4) (And.intro (HY3.out.2.1.below b4) (And.intro (HY3.out.2.2.1.below b4) (And.intro (HY3.out.2.2.2.1.below b4) (And.intro (HY3.out.2.2.2.2.1.below b4) (And.intro (HY3.out.2.2.2.2.2.1.below b4) (And.intro (HY3.out.2.2.2.2.2.2.below b4) rh)))))))
      clear q0 q1' q2' q3 q4 zp rh b4
      go_upto_region 21 with fail
      obtain ⟨x, hx⟩ : ∃ x, x = cl % 7 := ⟨_, rfl⟩
      obtain ⟨t, ht⟩ : ∃ t, t = 100 * tn := ⟨_, rfl⟩
      rw [← hx, ← ht]
      have hvr : vright ⟨x, t, false⟩ = true := by simp [vright, within]; omega
      have HV := Lib.hid hvr
      clear hx ht hvr
      obtain ⟨U, hU⟩ : ∃ U, U = Y4.alloc (.cells #[.int .i64 x, .int .i64 t, .bool false] 33) := ⟨_, rfl⟩
      obtain ⟨vb, hvb⟩ : ∃ vb, vb = Y4.heap.size := ⟨_, rfl⟩
      rw [← hU, ← hvb]
      have bU : Below Y4.heap.size Y4 U := by rw [hU]; exact (Below.refl _ _).alloc (Nat.le_refl _) _
      have vh : U.heap[vb]? = some (.cells #[.int .i64 x, .int .i64 t, .bool false] 33 (0, 0)) := by rw [hU, hvb]; exact heap_alloc_new _ _
      have FU : ∀ X, Below U.heap.size U X → PD w X pb As cs p Ad days ∧ PD w X pb As cs p B2 mid ∧ Rd X 2 B1 sp.length (spcs sp) ∧ (Rd X 2 Ab days.length (spcs (bndS p sp)) ∧ Rd X 1 Am days.length (ints (forceS p mid)) ∧ Rd X 1 Ao days.length (ints (forceS p low)) ∧ Rd X 1 Ah days.length (ints (forceS p days))) ∧
          (X.cell? ⟨vb, 0, none⟩ = some (.int .i64 x) ∧ X.cell? ⟨vb, 1, none⟩ = some (.int .i64 t) ∧ X.cell? ⟨vb, 2, none⟩ = some (.bool false)) := by
        intro X hX
        have h5 := (hX.block _ (heap_lt vh)).trans vh
        have b : Below Y4.heap.size Y4 X := bU.trans (hX.mono bU.size)
        obtain ⟨a1, a2, a3, a4, a5, a6, a7, a8⟩ := HY4.out
        exact ⟨a1.below b, a4.below b, a3.below b, ⟨a5.below b, a6.below b, a7.below b, a8.below b⟩, (cell_of_heap h5 0).trans rfl, (cell_of_heap h5 1).trans rfl, (cell_of_heap h5 2).trans rfl⟩
      have HF := Lib.hid FU
      clear hU hvb bU vh FU
      go_wp2_with fail
      go_loopw [164] (fun i wr => ∃ k : Nat, k ≤ days.length ∧ i = .int .i64 k ∧ Below U.heap.size U wr) (fun i _ => days.length - (intOf i).toNat)
      case atStart => exact ⟨0, Nat.zero_le _, rfl, Below.refl _ _⟩
      case round =>
        obtain ⟨k, hk, rfl, hb⟩ := hrel
        have HB := Lib.hid hb
        clear hb
        by_cases hlt : k < days.length
        · obtain ⟨pdd, pdm, rsp, ⟨rb, rm, ro, rh⟩, v0, v1, v2⟩ := HF.out wr HB.out
          obtain ⟨bb, ob, rfl, zbb, kb⟩ := rb.2 (by omega)
          obtain ⟨bm, om, rfl, zbm, km⟩ := rm.2 (by omega)
          obtain ⟨bo, oo, rfl, zbo, ko⟩ := ro.2 (by omega)
          obtain ⟨bh, oh, rfl, zbh, kh⟩ := rh.2 (by omega)
          have hsl := HL.out.1
          have hk2 : k < (bndS p sp).length := by rw [bndS_length, hsl]; exact hlt
          obtain ⟨s0, s1⟩ := spcs_get hk2
          have hbk : (bndS p sp)[k] = ((forceS p low).getD k 0, (forceS p days).getD k 0) := by
            simp only [bndS, List.getElem_map, List.getElem_range, HL.out.2.2.2.2.2.2.1, HL.out.2.2.2.2.2.2.2.1]
          rw [hbk] at s0 s1
          obtain ⟨a, ha⟩ : ∃ y, y = (forceS p low).getD k 0 := ⟨_, rfl⟩
          obtain ⟨z, hz⟩ : ∃ y, y = (forceS p days).getD k 0 := ⟨_, rfl⟩
          obtain ⟨f, hf⟩ : ∃ y, y = (forceS p mid).getD k 0 := ⟨_, rfl⟩
          rw [← ha] at s0
          rw [← hz] at s1
          have hlr := HX1.out.2.2.2.2.1
          have g0 := HL.out.2.2.2.2.2.2.2.2.1.2 k (by rw [forceS_length, hlr]; exact hlt)
          have g0' := HL.out.2.2.2.2.2.2.2.2.2.2 k (by rw [forceS_length, HL.out.2.1]; exact hlt)
          rw [← ha, ← hf] at g0
          rw [← hz, ← hf] at g0'
          have c0 : wr.cell? ⟨bb, ob + k * 2, none⟩ = some (.int .i64 a) := kb _ _ s0
          have c1 : wr.cell? ⟨bb, ob + k * 2 + 1, none⟩ = some (.int .i64 z) := by rw [Nat.add_assoc]; exact kb _ _ s1
          have cm' : wr.cell? ⟨bm, om + k, none⟩ = some (.int .i64 f) := by rw [hf]; exact km k _ (ints_get (by rw [forceS_length, HL.out.2.1]; exact hlt))
          have co' : wr.cell? ⟨bo, oo + k, none⟩ = some (.int .i64 a) := by rw [ha]; exact ko k _ (ints_get (by rw [forceS_length, hlr]; exact hlt))
          have ch' : wr.cell? ⟨bh, oh + k, none⟩ = some (.int .i64 z) := by rw [hz]; exact kh k _ (ints_get (by rw [forceS_length]; exact hlt))
          have g1 : decide (f < a) = false := by simp; omega
          have g2 : decide (z < f) = false := by simp; omega
          have g3 : (a != a) = false := by simp
          have g4 : (z != z) = false := by simp
          obtain ⟨sx, hsx⟩ : ∃ y, y = (passesS p days ⟨x, t, false⟩).getD k false := ⟨_, rfl⟩
          obtain ⟨mx, hmx⟩ : ∃ y, y = (passesS p low ⟨x, t, false⟩).getD k false := ⟨_, rfl⟩
          obtain ⟨ix, hix⟩ : ∃ y, y = (passesS p mid ⟨x, t, false⟩).getD k false := ⟨_, rfl⟩
          have i1 : sx = true → ix = true := fun h => by rw [hix]; exact passes_mono HD.out.1 HL.out.2.2.2.1 _ (by rw [HL.out.2.1]; exact hlt) (hsx.symm.trans h)
          have i2 : ix = true → mx = true := fun h => by rw [hmx]; exact passes_mono HD.out.1 HL.out.2.2.1 _ (by rw [hlr]; exact hlt) (hix.symm.trans h)
          have HPX := Lib.hid (And.intro hsx (And.intro hmx (And.intro hix (And.intro i1 i2))))
          have n1 : (0 : Int) ≤ (k : Int) := by omega
          have n2 : (k : Int) < (days.length : Int) := by omega
          clear kb km ko kh s0 s1 hbk ha hz hf hsx hmx hix i1 i2 pdd pdm rsp rb rm ro rh v0 v1 v2 hk2 hsl hlr g0 g0'
          go_upto_region 24 with fail
          obtain ⟨V0, hV0⟩ : ∃ V, V = wr.alloc (.cells #[.int .i64 a, .int .i64 z] 42) := ⟨_, rfl⟩
          obtain ⟨sb, hsb⟩ : ∃ sb, sb = wr.heap.size := ⟨_, rfl⟩
          have d0 : V0.cell? ⟨sb, 0, none⟩ = some (.int .i64 a) := by rw [hV0, hsb]; exact (cell_of_heap (heap_alloc_new _ _) 0).trans rfl
          have d1 : V0.cell? ⟨sb, 1, none⟩ = some (.int .i64 z) := by rw [hV0, hsb]; exact (cell_of_heap (heap_alloc_new _ _) 1).trans rfl
          have bV0 : Below wr.heap.size wr V0 := by rw [hV0]; exact (Below.refl _ _).alloc (Nat.le_refl _) _
          have cm := (bV0.cell (p := ⟨bm, om + k, none⟩) zbm).trans cm'
          have co := (bV0.cell (p := ⟨bo, oo + k, none⟩) zbo).trans co'
          have ch := (bV0.cell (p := ⟨bh, oh + k, none⟩) zbh).trans ch'
          have HV0 := Lib.hid (HB.out.trans (bV0.mono HB.out.size))
          rw [← hV0, ← hsb]
          clear cm' co' ch' c0 c1 bV0 hV0 hsb zbb zbm zbo zbh
          go_quiet (fail)
          obtain ⟨V, hV⟩ : ∃ V, V = V0.drewN nq := ⟨_, rfl⟩
          rw [← hV]
          have bV : Below U.heap.size U V := by rw [hV]; exact drewB HV0.out _
          have HBV := Lib.hid bV
          clear hV bV cm co ch d0 d1 g1 g2 g3 g4
          obtain ⟨pdd, _, rsp, _, v0, v1, v2⟩ := HF.out V HBV.out
          obtain ⟨q0, q1, q2, q3, q4, zp⟩ := pdd.cells
          have ks : Calls Try.prog 56 #[.agg #[.slice As p.steps.length cs, .int .i64 p.hold, .int .i64 p.calm, .int .i64 p.notice, .int .i64 p.grace], .slice B1 days.length dd1, .agg #[.int .i64 x, .int .i64 t, .bool false], .int .i64 k] V
              fun e w' => e = .returned (.tuple #[.bool sx, .bool mx, .int .i64 0]) ∧ Below V.heap.size V w' := by
            have := Sure_any As cs p B1 dd1 sp ⟨x, t, false⟩ k V pdd.pol rsp (by rw [HL.out.1]; omega)
            have he : sureE p sp ⟨x, t, false⟩ (k : Int) = 0 := by rw [sure_day HL.out.2.2.2.2.2.1 HV.out, HL.out.1, if_pos (by simp [within]; omega)]
            rw [HL.out.1] at this
            refine this.mono ?_
            rintro e w' ⟨rfl, hB⟩
            refine ⟨?_, hB⟩
            rw [sureB, perhB, he, if_pos rfl, if_pos rfl, Int.toNat_natCast, HL.out.2.2.2.2.2.2.1, HL.out.2.2.2.2.2.2.2.1, ← HPX.out.1, ← HPX.out.2.1]
          have KS := Lib.hid ks
          clear pdd rsp ks
          go_wp2_with fail
          refine KS.out.mono ?_
          rintro e V1 ⟨rfl, b1⟩
          have HB1 := Lib.hid (HBV.out.trans (b1.mono HBV.out.size))
          clear b1 q0 q1 q2 q3 q4 zp v0 v1 v2
          obtain ⟨pdd, pdm, _, _, v0, v1, v2⟩ := HF.out V1 HB1.out
          obtain ⟨q0, q1, q2, q3, q4, zp⟩ := pdd.cells
          have k2 : Calls Try.prog 17 #[.agg #[.slice As p.steps.length cs, .int .i64 p.hold, .int .i64 p.calm, .int .i64 p.notice, .int .i64 p.grace], .slice B2 days.length d2, .agg #[.int .i64 x, .int .i64 t, .bool false], .int .i64 k] V1
              fun e w' => e = .returned (.tuple #[.bool ix, .int .i64 0]) ∧ Below V1.heap.size V1 w' := by
            have := may_call d2 HL.out.2.2.2.2.1 pdm (by rw [HL.out.2.1]; omega) HV.out (k := k) (by rw [HL.out.2.1]; exact hlt)
            rw [HL.out.2.1, ← HPX.out.2.2.1] at this
            exact this
          have KM := Lib.hid k2
          clear pdd pdm k2
          go_wp2_with fail
          refine KM.out.mono ?_
          rintro e V2 ⟨rfl, b2⟩
          have HB2 := Lib.hid (HB1.out.trans (b2.mono HB1.out.size))
          clear b2 q0 q1 q2 q3 q4 zp v0 v1 v2
          cases sx
          · cases ix
            · go_wp2_with fail
              go_roundw
              case measure => simp [intOf]; omega
              case rel => exact ⟨k + 1, by omega, by go_num, HB2.out⟩
            · obtain rfl := HPX.out.2.2.2.2 rfl
              go_wp2_with fail
              go_roundw
              case measure => simp [intOf]; omega
              case rel => exact ⟨k + 1, by omega, by go_num, HB2.out⟩
          · obtain rfl := HPX.out.2.2.2.1 rfl
            obtain rfl := HPX.out.2.2.2.2 rfl
            go_wp2_with fail
            go_roundw
            case measure => simp [intOf]; omega
            case rel => exact ⟨k + 1, by omega, by go_num, HB2.out⟩
        · have hb := (HF.out wr HB.out).1.bel
          have HBW := Lib.hid hb
          clear hb
          go_wp2_with fail
          refine (awake_any _).mono ?_
          rintro e X6 ⟨rfl, b6⟩
          have B6 := Lib.hid b6
          clear b6
          go_wp2_with fail
          go_ret
          exact ⟨rfl, HBW.out.trans (B6.out.mono HBW.out.size)⟩
end Go.Proofs.Ytfmhlnfcbbpfeaa
