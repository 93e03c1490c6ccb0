/- polynyaref08.Orders -/
import Derived.Test.YtbgnkljjgfcngaaGreatRSp15
import Derived.Test.YtbgnkljjgfcngaaGreatRSp7
import Derived.Test.YtbgnkljjgfcngaaGreatRSp9
import Derived.IntWalk
import Derived.Test.YtbgnkljjgfcngaaGreatRSp8
import Derived.Test.YtbgnkljjgfcngaaGreatRSp11
import Derived.Sort.QuietIn
set_option linter.unusedVariables false
set_option linter.unusedSimpArgs false
namespace Go.Proofs.YtbgnkljjgfcngaaGreat
open Go Go.RowKit Sp
set_option linter.unusedVariables false

theorem infoROrd : (Tryz.prog.info? 81).map (fun i => (i.zero, i.size, i.bytes)) = some (some (.agg #[.int .i64 0, .int .i64 0, .int .i64 0]), 3, 24) := by kernel_rfl

/-- what the loop of Orders keeps -/
structure ROr (W wr : World) (F : List Int) (no : Int) (k m : Nat) (Ao : Option Addr) (co : Nat) (q : List Nat) : Prop where
  len : m = (ordN F no k).length
  own : OwnS wr 81 3 Ao m co (occs (ordN F no k)) q
  new : ∀ g ∈ q, W.heap.size ≤ g
  keep : Keep [] W wr
theorem ROr.step {W wr w2 w5 : World} {F : List Int} {no : Int} {k m : Nat} {Ao : Option Addr} {co : Nat} {q : List Nat} {x : Ord} {o : Obj} {g c' : Nat} (h : ROr W wr F no k m Ao co q) (he : ordN F no (k + 1) = ordN F no k ++ [x])
    (h0 : Keep [] wr w2) (h1 : OwnS w5 81 3 (some ⟨g, 0, none⟩) (m + 1) c' (occs (ordN F no k) ++ [.int .i64 x.iss, .int .i64 x.frm, .int .i64 x.stp]) [g]) (h2 : g ∈ q ∨ (w2.alloc o).heap.size = g) (h4 : Keep q (w2.alloc o) w5) :
    ROr W w5 F no (k + 1) (m + 1) (some ⟨g, 0, none⟩) c' [g] := by
  refine ⟨by rw [he, List.length_append, ← h.len]; rfl, by rw [he, occs_snoc]; exact h1, fun y hy => ?_, ((h.keep.trans h0 (by simp)).alloc _).trans h4 (fun y hy => .inr (h.new _ hy))⟩
  rw [List.mem_singleton.1 hy]
  rcases h2 with h2 | h2
  · exact h.new _ h2
  · have := h.keep.size; have := h0.size; simp at h2; omega
theorem ROr.same {W wr : World} {F : List Int} {no : Int} {k m : Nat} {Ao : Option Addr} {co : Nat} {q : List Nat} (h : ROr W wr F no k m Ao co q) (he : ordN F no (k + 1) = ordN F no k) : ROr W wr F no (k + 1) m Ao co q :=
  ⟨by rw [he]; exact h.len, by rw [he]; exact h.own, h.new, h.keep⟩
theorem occ_cells (w : World) (x : Ord) (t : TypeId) : ∀ j v, ([.int .i64 x.iss, .int .i64 x.frm, .int .i64 x.stp] : List Value)[j]? = some v → (w.alloc (.cells #[.int .i64 x.iss, .int .i64 x.frm, .int .i64 x.stp] t)).cell? ((⟨w.heap.size, 0, none⟩ : Addr).add j) = some v := by
  intro j v hv
  rw [show (⟨w.heap.size, 0, none⟩ : Addr).add j = ⟨w.heap.size, j, none⟩ from by simp [Addr.add]; omega, World.cell?_alloc_new]
  simpa using hv

def rOrdersL (p : Pol) (days : List Int) : List Ord := if startS p days = 0 then ordersS p days else []
def ROrdersPost (w : World) (p : Pol) (days : List Int) (e : Ending) (w' : World) : Prop :=
  ∃ A1 c1, e = .returned (.tuple #[.slice A1 (rOrdersL p days).length c1, .int .i64 (startS p days)]) ∧ Rd w' 3 A1 (rOrdersL p days).length (occs (rOrdersL p days)) ∧ (rOrdersL p days).length ≤ 400 ∧ Below w.heap.size w w'
set_option maxRecDepth 100000 in
set_option maxHeartbeats 2000000 in
theorem rOrders_any (As : Option Addr) (cs : Nat) (p : Pol) (A : Option Addr) (c : Nat) (days : List Int) (w : World) (hp : PolV w As cs p) (hr : Rd w 1 A days.length (ints days)) (hm : days.length ≤ 9223372036854775807) :
    Calls Tryz.prog 27 #[.agg #[.slice As p.steps.length cs, .int .i64 p.hold, .int .i64 p.calm, .int .i64 p.notice, .int .i64 p.grace], .slice A days.length c] w (ROrdersPost w p days) := by
  obtain ⟨i0, hi, hz0, hz1, hz2⟩ := info_parts infoROrd
  have rd0 := RD.new (A := A) (days := days) hp hr
  obtain ⟨W, hW⟩ : ∃ W, W = w.alloc (.cells #[.slice As p.steps.length cs, .int .i64 p.hold, .int .i64 p.calm, .int .i64 p.notice, .int .i64 p.grace] 65) := ⟨_, rfl⟩
  obtain ⟨ob, hob⟩ : ∃ ob, ob = w.heap.size := ⟨_, rfl⟩
  rw [← hW, ← hob] at rd0
  obtain ⟨er, her⟩ : ∃ er, er = startS p days := ⟨_, rfl⟩
  have k1 := begun_any As cs p A c days W rd0.pol rd0.dys hm
  rw [← her] at k1
  obtain ⟨q0, q1, q2, q3, q4, zp⟩ := rd0.cells
  have HR := Lib.hid (And.intro rd0 (And.intro k1 her))
  clear hp hr rd0 k1 her
  go_enter Tryz.func27, Tryz.ntmps27
  go_upto_region 1 with fail
  rw [← hW, ← hob]
  clear hW hob
  go_wp2_with fail
  refine HR.out.2.1.mono ?_
  rintro e w1 ⟨rfl, b1⟩
  have rd1 := HR.out.1.below b1
  clear q0 q1 q2 q3 q4 zp b1
  by_cases h0 : er = 0
  · subst h0
    have hs : startS p days = 0 := HR.out.2.2.symm
    obtain ⟨hck, hl4, _⟩ := start_ok hs
    obtain ⟨q0, q1, q2, q3, q4, zp⟩ := rd1.cells
    have k2 := rforce_any As cs p A c days w1 rd1.pol rd1.dys hck (by omega)
    have hno := (check_ok hck).2.2.2.2.2.2
    have hn0 := hno.1
    have hn1 := hno.2.1
    have hF0 : ∀ k, 0 ≤ (forceS p days).getD k 0 ∧ (forceS p days).getD k 0 < 100 := fun k => by
      have h6 := (force_step hck days k).1
      have h7 := (force_step hck days k).2
      have h8 := (check_ok hck).2.1
      omega
    have H1 := Lib.hid (And.intro rd1 (And.intro k2 (And.intro hs hF0)))
    clear rd1 k2 hs hck hno hF0
    go_wp2_with fail
    refine H1.out.2.1.mono ?_
    rintro e W2 ⟨Al, cl, rfl, h1, _, _, b2⟩
    have rd2 := H1.out.1.below b2
    obtain ⟨F, hF⟩ : ∃ F, F = forceS p days := ⟨_, rfl⟩
    have hFl : F.length = days.length := by rw [hF, forceS_length]
    rw [← hF] at h1
    have H2 := Lib.hid (And.intro h1 (And.intro rd2 (And.intro hF hFl)))
    clear h1 b2 q0 q1 q2 q3 q4 zp rd2 hF hFl
    go_wp2_with fail
    go_loopw [7, 9, 10] (fun o b i wr => ∃ (k m : Nat) (Ao : Option Addr) (co : Nat) (q : List Nat), k ≤ days.length ∧ i = .int .i64 k ∧ b = .int .i64 (befN F k) ∧ o = .slice Ao m co ∧ ROr W2 wr F p.notice k m Ao co q) (fun _ _ i _ => days.length - (intOf i).toNat)
    case atStart => exact ⟨0, 0, none, 0, [], Nat.zero_le _, rfl, rfl, rfl, rfl, OwnS.nil _ _ _, by simp, Keep.refl _ _⟩
    case round =>
      obtain ⟨k, m, Ao, co, q, hk, rfl, rfl, rfl, hst⟩ := hrel
      obtain ⟨y, hy⟩ : ∃ y, y = befN F k := ⟨_, rfl⟩
      rw [← hy]
      have hml : m ≤ 400 := by have := hst.len; have := ordN_length F p.notice k; omega
      by_cases hlt : k < days.length
      · obtain ⟨bl, ol, rfl, zl, cl'⟩ := H2.out.1.2 (by omega)
        obtain ⟨x, hx⟩ : ∃ x, x = F.getD k 0 := ⟨_, rfl⟩
        have cx := hst.keep.cell (cl' k _ (ints_get (by rw [H2.out.2.2.2]; exact hlt))) (by simp)
        rw [← hx] at cx
        have x0 : 0 ≤ x ∧ x < 100 := by rw [hx, H2.out.2.2.1]; exact H1.out.2.2.2 k
        have y0 : 0 ≤ y ∧ y < 100 := by
          rw [hy]
          cases k with
          | zero => simp [befN]
          | succ k => rw [befN, H2.out.2.2.1]; exact H1.out.2.2.2 k
        obtain ⟨x00, x01⟩ := x0
        obtain ⟨y00, y01⟩ := y0
        have nbl : bl ∉ q := fun hm => by have := hst.new _ hm; omega
        have hbe : befN F (k + 1) = x := by rw [befN, hx]
        have n1 : (0 : Int) ≤ (k : Int) := by omega
        have n2 : (k : Int) < (days.length : Int) := by omega
        have HS := Lib.hid (And.intro hst (And.intro hx (And.intro hy (And.intro hbe nbl))))
        clear cl' hx hy hst hbe nbl
        by_cases hxy : x < y
        · have he : ordN F p.notice (k + 1) = ordN F p.notice k ++ [⟨k, k, x⟩] := by
            rw [ordN, if_neg (by rw [← HS.out.2.1, ← HS.out.2.2.1]; omega), if_neg (by rw [← HS.out.2.1, ← HS.out.2.2.1]; omega), ← HS.out.2.1]
          have HE := Lib.hid he
          clear he
          go_wp2_with (at_builtin
                       refine wpList_append_S (size := 3) rfl (.tmp 32) (.tmp 40) 77 rfl i0 _ 24 Tryz.underlying77 hi hz0 hz1 (by decide) hz2 rfl (A := Ao) (n := m) (c := co) (xs := occs (ordN F p.notice k)) (fp := q) (by simp [Act.eval]) ⟨wr.heap.size, 0, none⟩ (by simp [Act.eval]) [.int .i64 k, .int .i64 k, .int .i64 x] (HS.out.1.own.alloc _) rfl (occ_cells wr ⟨k, k, x⟩ _) (by simp [Value.oneCell']) (by omega) (by omega) ?_
                       intro g c' w5 h1 h2 h3 h4
                       have d0 : w5.cell? ⟨bl, ol + k, none⟩ = some (.int .i64 x) := h4.cell ((World.cell?_alloc_lt _ _ ⟨bl, ol + k, none⟩ (World.block_lt_of_cell? wr _ cx)).trans cx) HS.out.2.2.2.2
                       have HQ := Lib.hid (HS.out.1.step HE.out (Keep.refl _ _) h1 h2 h4)
                       clear h1 h2 h3 h4)
          go_roundw
          case measure => simp [intOf]; omega
          case rel => exact ⟨k + 1, m + 1, _, c', [g], by omega, by go_num, by rw [HS.out.2.2.2.1], rfl, HQ.out⟩
        · by_cases hyx : y < x
          · have he : ordN F p.notice (k + 1) = ordN F p.notice k ++ [⟨(k : Int) - p.notice, k, x⟩] := by
              rw [ordN, if_neg (by rw [← HS.out.2.1, ← HS.out.2.2.1]; omega), if_pos (by rw [← HS.out.2.1, ← HS.out.2.2.1]; omega), ← HS.out.2.1]
            have HE := Lib.hid he
            clear he
            have rdw := H2.out.2.1.below (HS.out.1.keep.below (Nat.le_refl _) (by simp))
            obtain ⟨q0, q1, q2, q3, q4, zp⟩ := rdw.cells
            have KC : ∀ {b o : Nat} {u : Value}, b < W2.heap.size → wr.cell? ⟨b, o, none⟩ = some u → ∀ w', Keep q wr w' → w'.cell? ⟨b, o, none⟩ = some u := fun hb h w' hk => hk.cell h (fun hm => by have := HS.out.1.new _ hm; omega)
            have q3' := KC H2.out.2.1.cells.2.2.2.2.2 q3
            have cx' := KC zl cx
            have w1 : IntKind.i64.wrap ((k : Int) - p.notice) = (k : Int) - p.notice := IntWalk.i64_in _ (by omega)
            clear KC q0 q1 q2 q3 q4 zp rdw
            go_upto_region 13 with fail
            go_region_held3 (fun w' => Keep q wr w') (first | exact (Keep.refl _ _).drew | assumption | exact ((Keep.refl _ _).drew).alloc _)
              ((refine step_append_S (size := 3) rfl (.tmp 48) (.tmp 59) 77 rfl i0 _ 24 Tryz.underlying77 hi hz0 hz1 (by decide) hz2 rfl (A := Ao) (n := m) (c := co) (xs := occs (ordN F p.notice k)) (fp := q) (by simp [Act.eval]) ⟨wr.heap.size, 0, none⟩ (by simp [Act.eval]) [.int .i64 ((k : Int) - p.notice), .int .i64 k, .int .i64 x] ((HS.out.1.own.keepS ((Keep.refl [] wr).drew) (by simp)).alloc _) rfl (occ_cells wr.drew ⟨(k : Int) - p.notice, k, x⟩ _) (by simp [Value.oneCell']) (by omega) (by omega) ?_
                intro g c' w5 h1 h2 h3 h4
                have K5 : Keep q wr w5 := (((Keep.refl q wr).drew).alloc _).trans h4 (fun y hy => .inl hy)
                have d0 := cx' w5 K5
                have HQ := Lib.hid (HS.out.1.step HE.out ((Keep.refl [] wr).drew) h1 h2 h4)
                clear h1 h2 h3 h4))
            go_wp2_with fail
            go_roundw
            case measure => simp [intOf]; omega
            case rel => exact ⟨k + 1, m + 1, _, c', [g], by omega, by go_num, by rw [HS.out.2.2.2.1], rfl, HQ.out⟩
          · obtain rfl : x = y := by omega
            have he : ordN F p.notice (k + 1) = ordN F p.notice k := by rw [ordN, if_pos (by rw [← HS.out.2.1, ← HS.out.2.2.1])]
            have HE := Lib.hid he
            clear he
            go_wp2_with fail
            go_roundw
            case measure => simp [intOf]; omega
            case rel => exact ⟨k + 1, m, Ao, co, q, by omega, by go_num, by rw [HS.out.2.2.2.1], rfl, HS.out.1.same HE.out⟩
      · obtain rfl : k = days.length := by omega
        have HS := Lib.hid hst
        clear hst
        go_wp2_with fail
        go_ret2
        have hL : rOrdersL p days = ordN F p.notice days.length := by unfold rOrdersL; rw [if_pos H1.out.2.2.1, ordersS, H2.out.2.2.1]
        refine ⟨Ao, co, by rw [hL, ← HS.out.len, H1.out.2.2.1]; rfl, by rw [hL]; have := HS.out.own.rd; rwa [HS.out.len] at this, by rw [hL, ← HS.out.len]; exact hml, H2.out.2.1.bel.trans (HS.out.keep.below H2.out.2.1.bel.size (by simp))⟩
  · have hne : (er != 0) = true := by simp [h0]
    have HK := Lib.hid (And.intro h0 rd1.bel)
    clear h0 rd1
    go_wp2_with fail
    go_ret2
    have hL : rOrdersL p days = [] := by unfold rOrdersL; rw [if_neg (by rw [← HR.out.2.2]; exact HK.out.1)]
    exact ⟨none, 0, by rw [hL, ← HR.out.2.2]; rfl, by rw [hL]; exact Rd.nil _ _ _, by rw [hL]; simp, HK.out.2⟩
end Go.Proofs.YtbgnkljjgfcngaaGreat
/- slices.EqualFunc of orders with those of the reference -/
namespace Go.Proofs.YtbgnkljjgfcngaaGreat
open Go Go.RowKit Sp
set_option linter.unusedVariables false

theorem rord_eql (x : Ord) (w : World) : (binOp .eql 81 (.agg #[.int .i64 x.iss, .int .i64 x.frm, .int .i64 x.stp]) (.agg #[.int .i64 x.iss, .int .i64 x.frm, .int .i64 x.stp])).run Tryz.prog w = .ok (.bool true) w := by
  have u3 := Tryz.underlying3
  have a3 := Tryz.isAgg3
  have z3 := Tryz.sizeOf3
  have hS : Tryz.prog.underlying 81 = some (.struct (Tryz.prog.fieldsOf 81)) := by kernel_rfl
  have hp : Tryz.prog.stoodInHeld 81 = false := by kernel_rfl
  rw [run_eql_struct, show (10000 : Nat) = 9999 + 1 from rfl, run_equalIn_agg w 9999 81 _ _ hS hp]
  simp only [Program.fieldsOf, Tryz.underlying81]
  go_simp
theorem rord_neq (x y : Ord) (w : World) : (binOp .neq 81 (.agg #[.int .i64 x.iss, .int .i64 x.frm, .int .i64 x.stp]) (.agg #[.int .i64 y.iss, .int .i64 y.frm, .int .i64 y.stp])).run Tryz.prog w = .ok (.bool (!decide (x = y))) w := by
  have u3 := Tryz.underlying3
  have a3 := Tryz.isAgg3
  have z3 := Tryz.sizeOf3
  have hS : Tryz.prog.underlying 81 = some (.struct (Tryz.prog.fieldsOf 81)) := by kernel_rfl
  have hp : Tryz.prog.stoodInHeld 81 = false := by kernel_rfl
  rw [run_neq_struct, show (10000 : Nat) = 9999 + 1 from rfl, run_equalIn_agg w 9999 81 _ _ hS hp]
  simp only [Program.fieldsOf, Tryz.underlying81]
  go_simp
  obtain ⟨a, b, c⟩ := x
  obtain ⟨a', b', c'⟩ := y
  by_cases h1 : a = a' <;> by_cases h2 : b = b' <;> by_cases h3 : c = c' <;> simp [h1, h2, h3]

theorem steps1_any (x : Ord) (w : World) :
    Calls Tryz.prog 29 #[.agg #[.int .i64 x.iss, .int .i64 x.frm, .int .i64 x.stp], .agg #[.int .i64 x.iss, .int .i64 x.frm, .int .i64 x.stp]] w fun e w' => e = .returned (.bool true) ∧ Below w.heap.size w w' := by
  have he := fun w => rord_eql x w
  go_enter Tryz.func29, Tryz.ntmps29
  go_wp2_with fail
  go_ret
  exact ⟨rfl, ((Below.refl _ _).alloc (Nat.le_refl _) _).alloc (by simp) _⟩

set_option maxRecDepth 100000 in
set_option maxHeartbeats 1000000 in
theorem eqFuncOrd_same (A : Option Addr) (c : Nat) (l : List Ord) (B : Option Addr) (d : Nat) (w : World) (hr : Rd w 3 A l.length (occs l)) (hr2 : Rd w 3 B l.length (occs l)) (hm : l.length ≤ 9223372036854775807) :
    Calls Tryz.prog 28 #[.slice A l.length c, .slice B l.length d, .func (.func 29) #[] #[]] w fun e w' => e = .returned (.bool true) ∧ Below w.heap.size w w' := by
  go_enter Tryz.func28, Tryz.ntmps28
  go_wp2_with fail
  go_loopg [17] (l.length) (fun g i wr => ∃ k : Nat, g + k = l.length ∧ i = .int .i64 k ∧ Keep [] w wr)
  case atStart => exact ⟨0, rfl, rfl, Keep.refl _ _⟩
  case round =>
    obtain ⟨k, hk, rfl, hK⟩ := hrel
    have HB := Lib.hid hK
    by_cases hlt : k < l.length
    · obtain ⟨b, off, rfl, hbb, hc⟩ := hr.2 (by omega)
      obtain ⟨b2, off2, rfl, hbb2, hc2⟩ := hr2.2 (by omega)
      obtain ⟨x, hx'⟩ : ∃ x, x = l[k] := ⟨_, rfl⟩
      obtain ⟨s0, s1, s2⟩ := occs_get hlt
      rw [← hx'] at s0 s1 s2
      have bk : ∀ o u, w.cell? ⟨b, o, none⟩ = some u → wr.cell? ⟨b, o, none⟩ = some u := fun o u h => hK.cell h (by simp)
      have bk2 : ∀ o u, w.cell? ⟨b2, o, none⟩ = some u → wr.cell? ⟨b2, o, none⟩ = some u := fun o u h => hK.cell h (by simp)
      have c0 := bk (off + k*3) _ (hc _ _ s0)
      have c1 := bk (off + k*3 + 1) _ (hc _ _ s1)
      have c2 := bk (off + k*3 + 2) _ (hc _ _ s2)
      have d0 := bk2 (off2 + k*3) _ (hc2 _ _ s0)
      have d1 := bk2 (off2 + k*3 + 1) _ (hc2 _ _ s1)
      have d2 := bk2 (off2 + k*3 + 2) _ (hc2 _ _ s2)
      have z1 := World.block_lt_of_cell? wr _ c0
      have z2 := World.block_lt_of_cell? wr _ d0
      have hkI : (0 : Int) ≤ (k : Int) ∧ (k : Int) < (l.length : Int) := by omega
      clear bk bk2 s0 s1 s2 hx' hK hc hc2 hr hr2
      go_wp2_with fail
      refine (steps1_any x _).mono ?_
      rintro e w2 ⟨rfl, hB⟩
      have hB1 : Below wr.heap.size wr w2 := (((Below.refl wr.heap.size wr).alloc (Nat.le_refl _) _).alloc (by simp) _).trans (hB.mono (by simp; omega))
      have HB1 := Lib.hid hB1
      clear hB hB1
      go_wp2_with fail
      go_roundg (gk - 1)
      case measure => omega
      case rel => exact ⟨k + 1, by omega, by go_num, HB.out.trans (Keep.of_below (S := []) HB1.out) (by simp)⟩
    · obtain rfl : k = l.length := by omega
      clear hK
      go_wp2_with fail
      go_ret
      exact ⟨rfl, HB.out.below (Nat.le_refl _) (by simp)⟩
end Go.Proofs.YtbgnkljjgfcngaaGreat
/- A region that draws its order and only reads, in the round of a range over a function: one walk in the order of the text. No program is named here. -/
namespace Go.Proofs.YtbgnkljjgfcngaaGreat
open Go

def notDefer (o : Oper) : Bool := match o.op with
  | .defer _ => false
  | _ => true
theorem notDefer_ne {o : Oper} (h : notDefer o = true) : ∀ c, o.op ≠ .defer c := by
  intro c e
  simp [notDefer, e] at h

section
variable {F : Fence} {n : Nat} {P : Program} {ops : Array Oper} {C : World → Prop} {md : Region.Mode}
theorem quietR_op {o : Oper} {a : Act} {K : Act → Prop} {K' : Act → World → Prop} {Q' : Exit → Act → World → Prop} {w : World} (hd : notDefer o = true) (hw : C w) (h : ∀ a w', C w' → K a → K' a w')
    (ha : o.askedIn F P a C) (hh : o.quietIn F n P a C K) : o.wpIn F n P a w K' Q' := by
  obtain ⟨v, h1, h2⟩ := hh
  have h3 := h1 w hw
  unfold Oper.quietAtIn at h3
  refine ⟨ha w hw, ?_⟩
  rw [Oper.semAt_eq _ _ _ (notDefer_ne hd)]
  generalize (execOp a.eval o).run P w = r at *
  cases r with
  | halt x w' => simp only [Oper.quietUponIn] at h3
  | ok x w' =>
    cases x <;> simp only [Oper.quietUponIn] at h3 <;> simp only [Oper.uponIn]
    case value u => rw [h3.1, h3.2]; exact h _ _ hw h2
    case skip => rw [h3.1, ← h3.2]; exact h _ _ hw h2
    case enter f args =>
      obtain ⟨e1, hdp, hc⟩ := h3
      rw [e1]
      exact ⟨hdp, hc.mono fun e w'' ⟨he, hw''⟩ => by subst he; exact h _ _ hw'' h2⟩

theorem quietR_at (hd : ops.all notDefer = true) {i : Nat} {a : Act} {K : Act → Prop} {K' : Act → World → Prop} {Q' : Exit → Act → World → Prop} {w : World} (hC : C w) (h : ∀ a w', C w' → K a → K' a w')
    (hh : qOpIn F n P ops C i K a) : wpOpIn F n P ops Q' i K' a w := by
  unfold qOpIn at hh
  unfold wpOpIn
  cases ho : ops[i]? with
  | none => simp only [ho] at hh; exact h _ _ hC hh
  | some o =>
    simp only [ho] at hh ⊢
    obtain ⟨ha, hh⟩ := hh
    have hdo : notDefer o = true := by
      obtain ⟨hi, e⟩ := Array.getElem?_eq_some_iff.1 ho
      have := Array.all_eq_true.1 hd i hi
      rwa [e] at this
    split
    · rename_i hw; simp only [hw, if_true] at hh; exact quietR_op hdo hC h ha hh
    · rename_i hw; simp only [hw] at hh; exact ⟨ha w hC, h _ _ hC hh⟩

theorem quietR_any (hd : ops.all notDefer = true) {Q : Act → Prop} {Q' : Exit → Act → World → Prop} (hQ : ∀ a w, C w → Q a → Q' .normal a w) : ∀ (fuel : Nat) (listed : Array Bool) (a : Act) (w : World), C w →
    wpAnyQIn F n P md ops C Q fuel listed a → wpAnyIn F n P md ops Q' fuel listed a w
  | 0, _, _, _, hw, h => ⟨h.1, hQ _ _ hw h.2⟩
  | fuel + 1, _, _, _, hw, h => ⟨fun h0 => hQ _ _ hw (h.1 h0), fun i hi => quietR_at hd hw (fun a' w' hw' => quietR_any hd hQ fuel _ a' w' hw') (h.2 i hi)⟩
end

theorem region_quietR {F : Fence} {n : Nat} {P : Program} {id : Nat} {Q : Exit → Act → World → Prop} {a : Act} {w : World} {l : List Oper} (hd : l.toArray.all notDefer = true) (hm : P.follows .mixedOrders = true) (hB : Region.lexB .any l.toArray = true)
    (h : wpQuietIn F n P l.toArray (fun w' => ∃ n, w' = w.drewN n) (fun a' => ∀ w', (∃ n, w' = w.drewN n) → Q .normal a' w') l a) : (Code.region id l.toArray true).wpIn F n P Q a w := by
  simp only [Region.lexB, Bool.and_eq_true] at hB
  refine wpIn_region_any hm (quietR_any (C := fun w' => ∃ n, w' = w.drewN n) (Q := fun a' => ∀ w', (∃ n, w' = w.drewN n) → Q .normal a' w') hd (fun _ w' hw' h => h w' hw') _ _ _ _ ⟨1, rfl⟩ ?_)
  have := wpAnyQIn_lex (F := F) (n := n) (C := fun w' => ∃ n, w' = w.drewN n) (md := .any) hB.1 l 0 (Array.replicate l.toArray.size false) a (by simp) (by simpa using hB.2) h
  simpa using this
end Go.Proofs.YtbgnkljjgfcngaaGreat
