/- polynyaref08.Review: the walk -/
import Derived.Test.YtbgnkljjgfcngaaGreatRSp23
import Derived.Test.YtbgnkljjgfcngaaGreatRSp10
import Derived.Test.YtbgnkljjgfcngaaGreatRSp20
import Derived.Test.YtbgnkljjgfcngaaGreatRSp19
import Derived.Test.YtbgnkljjgfcngaaGreatRSp9
import Derived.Test.YtbgnkljjgfcngaaGreatRSp21
import Derived.Test.YtbgnkljjgfcngaaGreatRSp22
set_option linter.unusedVariables false
set_option linter.unusedSimpArgs false
namespace Go.Proofs.YtbgnkljjgfcngaaGreat
open Go Go.RowKit Sp
set_option linter.unusedSimpArgs false
set_option linter.unusedVariables false

/-- between the passages -/
structure RvSt (W wr : World) (p : Pol) (days : List Int) (l : List Psg) (k : Nat) (Ao : Option Addr) (co : Nat) (q : List Nat) : Prop where
  own : OwnA wr 3 Ao k co (ints ((l.map (outcome p days)).take k)) q
  new : ∀ g ∈ q, W.heap.size ≤ g
  keep : Keep [] W wr
theorem RvSt.below {W wr w2 : World} {p : Pol} {days : List Int} {l : List Psg} {k : Nat} {Ao : Option Addr} {co : Nat} {q : List Nat} (h : RvSt W wr p days l k Ao co q) (hb : Below wr.heap.size wr w2) : RvSt W w2 p days l k Ao co q :=
  ⟨h.own.keepS (Keep.of_below (S := []) hb) (by simp), h.new, h.keep.trans (Keep.of_below (S := []) hb) (by simp)⟩
theorem RvSt.app {W wr w5 : World} {p : Pol} {days : List Int} {l : List Psg} {k : Nat} {Ao : Option Addr} {co : Nat} {q : List Nat} {o : Obj} {g off c' : Nat} {u : Int} (h : RvSt W wr p days l k Ao co q) (hk : k < l.length) (hu : u = outcome p days l[k])
    (h1 : OwnA w5 3 (some ⟨g, off, none⟩) (k + 1) c' (ints ((l.map (outcome p days)).take k) ++ [.int .i64 u]) [g]) (h2 : g ∈ q ∨ (wr.alloc o).heap.size = g) (h4 : Keep q (wr.alloc o) w5) : RvSt W w5 p days l (k + 1) (some ⟨g, off, none⟩) c' [g] := by
  refine ⟨?_, fun y hy => ?_, (h.keep.alloc _).trans h4 (fun y hy => .inr (h.new _ hy))⟩
  · rw [List.take_succ_eq_append_getElem (by simpa using hk), List.getElem_map, ← hu]
    simpa [ints] using h1
  · rw [List.mem_singleton.1 hy]
    rcases h2 with h2 | h2
    · exact h.new _ h2
    · have := h.keep.size; simp at h2; omega

set_option maxRecDepth 100000 in
set_option maxHeartbeats 8000000 in
theorem rReview_any (As : Option Addr) (cs : Nat) (p : Pol) (A : Option Addr) (c : Nat) (days : List Int) (Al : Option Addr) (cl : Nat) (l : List Psg) (w : World) (hp : PolV w As cs p) (hr : Rd w 1 A days.length (ints days)) (hm : days.length ≤ 9223372036854775807)
    (hrl : Rd w 5 Al l.length (pscs l)) (hml : l.length ≤ 9223372036854775807) :
    Calls Tryz.prog 48 #[.agg #[.slice As p.steps.length cs, .int .i64 p.hold, .int .i64 p.calm, .int .i64 p.notice, .int .i64 p.grace], .slice A days.length c, .slice Al l.length cl] w (ReviewPost w p days l) := by
  obtain ⟨i0, hi, hz0, hz1, hz2⟩ := info_parts info_int
  have rd0 := RD.new (A := A) (days := days) hp hr
  obtain ⟨W, hW⟩ : ∃ W, W = w.alloc (.cells #[.slice As p.steps.length cs, .int .i64 p.hold, .int .i64 p.calm, .int .i64 p.notice, .int .i64 p.grace] 65) := ⟨_, rfl⟩
  obtain ⟨ob, hob⟩ : ∃ ob, ob = w.heap.size := ⟨_, rfl⟩
  rw [← hW, ← hob] at rd0
  obtain ⟨er, her⟩ : ∃ er, er = startS p days := ⟨_, rfl⟩
  have k1 := begun_any As cs p A c days W rd0.pol rd0.dys hm
  rw [← her] at k1
  obtain ⟨q0, q1, q2, q3, q4, zp⟩ := rd0.cells
  have HR := Lib.hid (And.intro rd0 (And.intro k1 (And.intro her (hrl.below rd0.bel))))
  clear hp hr rd0 k1 her hrl
  go_enter Tryz.func48, Tryz.ntmps48
  go_upto_region 1 with fail
  rw [← hW, ← hob]
  clear hW hob
  go_wp2_with fail
  refine HR.out.2.1.mono ?_
  rintro e w1 ⟨rfl, b1⟩
  have rd1 := HR.out.1.below b1
  have H1 := Lib.hid (And.intro rd1 (HR.out.2.2.2.below b1))
  clear q0 q1 q2 q3 q4 zp b1 rd1
  by_cases h0 : er = 0
  · subst h0
    have hst : startS p days = 0 := HR.out.2.2.1.symm
    obtain ⟨hck, hl4, _⟩ := start_ok hst
    have HK := Lib.hid (And.intro hst hck)
    clear hst hck
    by_cases hbig : 500 < l.length
    · have hbig' : (500 : Int) < (l.length : Int) := by omega
      have HG := Lib.hid hbig'
      go_wp2_with fail
      go_ret2
      exact ReviewPost.bad (review_many HK.out.1 HG.out) (by decide) H1.out.1.bel
    · have hbig' : ¬ (500 : Int) < (l.length : Int) := by omega
      have hre : reviewE p days l = psgsE days.length l := review_psgs HK.out.1 hbig'
      have HRE := Lib.hid hre
      clear hre
      go_wp2_with fail
      go_loopw [9] (fun i wr => ∃ k : Nat, k ≤ l.length ∧ i = .int .i64 k ∧ (∀ x ∈ l.take k, psgE days.length x = 0) ∧ Below w1.heap.size w1 wr) (fun i _ => l.length - (intOf i).toNat)
      case atStart => exact ⟨0, Nat.zero_le _, rfl, by simp, Below.refl _ _⟩
      case round =>
        obtain ⟨k, hk, rfl, hall, hb⟩ := hrel
        have HB := Lib.hid (And.intro hall hb)
        by_cases hlt : k < l.length
        · obtain ⟨b, off, rfl, zb, hc⟩ := (H1.out.2.below hb).2 (by omega)
          obtain ⟨x, hx⟩ : ∃ x, x = l[k] := ⟨_, rfl⟩
          obtain ⟨s0, s1, s2, s3, s4⟩ := pscs_get hlt
          rw [← hx] at s0 s1 s2 s3 s4
          have c0 := hc _ _ s0
          have c1 : wr.cell? ⟨b, off + k*5 + 1, none⟩ = _ := hc _ _ s1
          have c2 : wr.cell? ⟨b, off + k*5 + 2, none⟩ = _ := hc _ _ s2
          have c3 : wr.cell? ⟨b, off + k*5 + 3, none⟩ = _ := hc _ _ s3
          have c4 : wr.cell? ⟨b, off + k*5 + 4, none⟩ = _ := hc _ _ s4
          have n1 : (0 : Int) ≤ (k : Int) := by omega
          have n2 : (k : Int) < (l.length : Int) := by omega
          obtain ⟨vr, hvr⟩ : ∃ vr, vr = vright x.ves := ⟨_, rfl⟩
          have hcal : ∀ wx, Calls Tryz.prog 90 #[.agg #[.int .i64 x.ves.cls, .int .i64 x.ves.ton, .bool x.ves.esc]] wx fun e w' => e = .returned (.bool vr) ∧ Below wx.heap.size wx w' := fun wx => by rw [hvr]; exact rvessel_any x.ves wx
          have hbad : ∀ {er : Int} {w' : World}, psgE days.length x = er → er ≠ 0 → Below wr.heap.size wr w' → ReviewPost w p days l (.returned (.tuple #[.slice none 0 0, .int .i64 er])) w' := fun he h0 hB => by
            refine ReviewPost.bad (HRE.out.trans ?_) h0 (H1.out.1.bel.trans ((HB.out.2.trans (hB.mono HB.out.2.size)).mono H1.out.1.bel.size))
            rw [psgsE_at hlt HB.out.1 (by rw [← hx, he]; exact h0), ← hx, he]
          have hgood : ∀ {w' : World}, psgE days.length x = 0 → Below wr.heap.size wr w' → (∀ x ∈ l.take (k + 1), psgE days.length x = 0) ∧ Below w1.heap.size w1 w' := fun he hB => ⟨fun y hy => by
            rw [List.take_succ_eq_append_getElem hlt] at hy
            rcases List.mem_append.1 hy with h | h
            · exact HB.out.1 y h
            · rw [List.mem_singleton.1 h, ← hx]; exact he, HB.out.2.trans (hB.mono HB.out.2.size)⟩
          have HX := Lib.hid (And.intro hvr (And.intro hcal (And.intro @hbad @hgood)))
          clear s0 s1 s2 s3 s4 hc hx hvr hcal hbad hgood hall hb
          cases vr
          · go_wp2_with (go_at_call 90; refine (HX.out.2.1 _).mono ?_; rintro e w2 ⟨rfl, b2⟩)
            go_ret2
            exact HX.out.2.2.1 (psgE_bad HX.out.1.symm) (by decide) b2
          · obtain ⟨r1, hr1⟩ : ∃ r, r = within x.ent 0 ((days.length : Int) - 1) := ⟨_, rfl⟩
            obtain ⟨r2, hr2⟩ : ∃ r, r = within x.lea 0 ((days.length : Int) - 1) := ⟨_, rfl⟩
            have in1 : ∀ wx, Calls Tryz.prog 72 #[.int .i64 x.ent, .int .i64 0, .int .i64 ((days.length : Int) - 1)] wx fun e w' => e = .returned (.bool r1) ∧ w' = wx := fun wx => by rw [hr1]; exact (rin_any x.ent 0 _ wx).mono fun e w' ⟨h1, h2⟩ => ⟨h1, h2.symm⟩
            have in2 : ∀ wx, Calls Tryz.prog 72 #[.int .i64 x.lea, .int .i64 0, .int .i64 ((days.length : Int) - 1)] wx fun e w' => e = .returned (.bool r2) ∧ w' = wx := fun wx => by rw [hr2]; exact (rin_any x.lea 0 _ wx).mono fun e w' ⟨h1, h2⟩ => ⟨h1, h2.symm⟩
            have hE := psgE_ref (n := days.length) HX.out.1.symm
            rw [← hr1, ← hr2] at hE
            have HD := Lib.hid (And.intro in1 (And.intro in2 hE))
            clear hr1 hr2 in1 in2 hE
            have w6 : IntKind.i64.wrap ((days.length : Int) - 1) = (days.length : Int) - 1 := IntWalk.i64_in _ (by omega)
            have hlD : (decide (x.lea < x.ent) = true ∧ x.lea < x.ent) ∨ (decide (x.lea < x.ent) = false ∧ ¬ x.lea < x.ent) := by by_cases h : x.lea < x.ent <;> simp [h]
            have HL := Lib.hid hlD
            clear hlD
            obtain ⟨ok, hok⟩ : ∃ ok, ok = (r1 && r2 && !decide (x.lea < x.ent)) := ⟨_, rfl⟩
            have hE2 : psgE days.length x = if ok = true then 0 else 6 := by
              rw [HD.out.2.2, hok]
              simp [and_assoc]
            have HO := Lib.hid (And.intro hok hE2)
            clear hok hE2
            go_upto_region 11 with (go_at_call 90; refine (HX.out.2.1 _).mono ?_; rintro e w2 ⟨rfl, b2⟩)
            have c0 := (b2.cell (World.block_lt_of_cell? _ _ c0)).trans c0
            have c1 := (b2.cell (World.block_lt_of_cell? _ _ c1)).trans c1
            have c2 := (b2.cell (World.block_lt_of_cell? _ _ c2)).trans c2
            have c3 := (b2.cell (World.block_lt_of_cell? _ _ c3)).trans c3
            have c4 := (b2.cell (World.block_lt_of_cell? _ _ c4)).trans c4
            have B2 := Lib.hid b2
            clear b2
            go_cut [72] from 38 to 72 (fun b wx => b = .bool (!ok) ∧ ∃ nq, wx = w2.drewN nq)
            case first =>
              rcases HL.out with ⟨e3, _⟩ | ⟨e3, _⟩
              all_goals cases r1
              all_goals cases r2
              all_goals
                go_quiet ((first | (go_at_call 72; with_reducible exact Calls.quiet_of_same (HD.out.1 _)) | (go_at_call 72; with_reducible exact Calls.quiet_of_same (HD.out.2.1 _))))
                go_wp2_with fail
                go_meet
                exact ⟨by rw [HO.out.1, e3]; rfl, _, rfl⟩
            case rest =>
            obtain ⟨rfl, nq, rfl⟩ := hcut
            cases ok
            · go_wp2_with fail
              go_ret2
              exact HX.out.2.2.1 (by rw [HO.out.2]; rfl) (by decide) (below_drewN B2.out _)
            · go_wp2_with fail
              go_roundw
              case measure => simp [intOf]; omega
              case rel => exact ⟨k + 1, by omega, by go_num, HX.out.2.2.2 (by rw [HO.out.2]; rfl) (below_drewN B2.out _)⟩
        · obtain rfl : k = l.length := by omega
          have hz : psgsE days.length l = 0 := psgsE_zero (by have := HB.out.1; rwa [List.take_length] at this)
          have rd2 := H1.out.1.below hb
          have k2 := rforce_any As cs p A c days wr rd2.pol rd2.dys HK.out.2 hl4
          obtain ⟨q0, q1, q2, q3, q4, zp⟩ := rd2.cells
          have H2 := Lib.hid (And.intro rd2 (And.intro (H1.out.2.below hb) (And.intro k2 (And.intro (HRE.out.trans hz) (show ∀ x ∈ l, psgE days.length x = 0 from by have := HB.out.1; rwa [List.take_length] at this)))))
          clear rd2 k2 hz hall hb HB
          go_wp2_with fail
          refine H2.out.2.2.1.mono ?_
          rintro e W2 ⟨Af, cf, rfl, h1, _, _, b2⟩
          obtain ⟨F, hF⟩ : ∃ F, F = forceS p days := ⟨_, rfl⟩
          have hFl : F.length = days.length := by rw [hF, forceS_length]
          rw [← hF] at h1
          have H3 := Lib.hid (And.intro (H2.out.1.below b2) (And.intro (H2.out.2.1.below b2) (And.intro h1 (And.intro hF hFl))))
          clear h1 b2 q0 q1 q2 q3 q4 zp hF hFl
          have hg0 : 0 ≤ p.grace ∧ p.grace ≤ 60 := by have := check_ok HK.out.2; omega
          obtain ⟨gr, hgr⟩ : ∃ gr, gr = p.grace := ⟨_, rfl⟩
          rw [← hgr] at hg0
          go_wp2_with fail
          go_loopw [10, 12] (fun o i wr => ∃ (k : Nat) (Ao : Option Addr) (co : Nat) (q : List Nat), k ≤ l.length ∧ i = .int .i64 k ∧ o = .slice Ao k co ∧ RvSt W2 wr p days l k Ao co q) (fun _ i _ => l.length - (intOf i).toNat)
          case atStart => exact ⟨0, none, 0, [], Nat.zero_le _, rfl, rfl, OwnA.nil _ _, by simp, Keep.refl _ _⟩
          case round =>
            obtain ⟨k, Ao, co, q, hk, rfl, rfl, hst⟩ := hrel
            by_cases hlt : k < l.length
            · have bk : Below W2.heap.size W2 wr := hst.keep.below (Nat.le_refl _) (by simp)
              obtain ⟨b, off, rfl, zb, hc⟩ := (H3.out.2.1.below bk).2 (by omega)
              obtain ⟨x, hx⟩ : ∃ x, x = l[k] := ⟨_, rfl⟩
              obtain ⟨s0, s1, s2, s3, s4⟩ := pscs_get hlt
              rw [← hx] at s0 s1 s2 s3 s4
              have hx0 : psgE days.length x = 0 := by rw [hx]; exact H2.out.2.2.2.2 _ (List.getElem_mem hlt)
              obtain ⟨hxv, a, z, ha, hz, haz, hzn⟩ := psg_ok hx0
              rw [ha] at s3
              rw [hz] at s4
              have c0 := hc _ _ s0
              have c1 : wr.cell? ⟨b, off + k*5 + 1, none⟩ = _ := hc _ _ s1
              have c2 : wr.cell? ⟨b, off + k*5 + 2, none⟩ = _ := hc _ _ s2
              have c3 : wr.cell? ⟨b, off + k*5 + 3, none⟩ = _ := hc _ _ s3
              have c4 : wr.cell? ⟨b, off + k*5 + 4, none⟩ = _ := hc _ _ s4
              obtain ⟨L, hL⟩ : ∃ L, L = passesS p days x.ves := ⟨_, rfl⟩
              have hso := said_outcome (p := p) ha hz haz hzn
              rw [← hL] at hso
              have n1 : (0 : Int) ≤ (k : Int) := by omega
              have n2 : (k : Int) < (l.length : Int) := by omega
              have HX := Lib.hid (And.intro hst (And.intro hx (And.intro hxv (And.intro hL hso))))
              clear s0 s1 s2 s3 s4 hc hx hx0 ha hz hL hso hxv hst
              obtain ⟨X, hX⟩ : ∃ X, X = wr.alloc (.cells #[.int .i64 x.ves.cls, .int .i64 x.ves.ton, .bool x.ves.esc, .int .i64 a, .int .i64 z] 109) := ⟨_, rfl⟩
              obtain ⟨xb, hxb⟩ : ∃ xb, xb = wr.heap.size := ⟨_, rfl⟩
              have hxh : X.heap[xb]? = some (.cells #[.int .i64 x.ves.cls, .int .i64 x.ves.ton, .bool x.ves.esc, .int .i64 a, .int .i64 z] 109 (0, 0)) := by rw [hX, hxb]; exact heap_alloc_new _ _
              have bX : Below wr.heap.size wr X := by rw [hX]; exact (Below.refl _ _).alloc (Nat.le_refl _) _
              have x3 := (cell_of_heap hxh 3).trans rfl
              have x4 := (cell_of_heap hxh 4).trans rfl
              have HY := Lib.hid (And.intro hxh (And.intro bX (bk.trans (bX.mono bk.size))))
              clear hxh bX bk
              go_upto_region 19 with fail
              rw [← hX, ← hxb]
              clear hX hxb
              go_wp2_with fail
              go_loopw [14, 15] (fun s d wy => ∃ (n : Nat) (dd sd : Int), n ≤ z + 1 - a ∧ dd = (z : Int) - n ∧ d = .int .i64 dd ∧ s = .int .i64 sd ∧ sd = saidN p L a z n ∧ Below X.heap.size X wy) (fun _ d _ => (intOf d + 1 - a).toNat)
              case atStart => exact ⟨0, z, 0, Nat.zero_le _, by simp, rfl, rfl, rfl, Below.refl _ _⟩
              case round =>
                obtain ⟨n, dd, sd, hn, hdd, rfl, rfl, hsd, hB⟩ := hrel
                have HB := Lib.hid (And.intro hsd hB)
                by_cases hlz : n < z + 1 - a
                · obtain ⟨e, he⟩ : ∃ e : Nat, e = z - n := ⟨_, rfl⟩
                  obtain rfl : dd = (e : Int) := by omega
                  have hea : a ≤ e := by omega
                  have hez : e ≤ z := by omega
                  have by2 : Below W2.heap.size W2 wr := HY.out.2.2.trans (hB.mono HY.out.2.2.size)
                  obtain ⟨bl, ol, rfl, zl, cl'⟩ := (H3.out.2.2.1.below by2).2 (by omega)
                  have hfs := force_step HK.out.2 days e
                  obtain ⟨j, hj⟩ := Int.eq_ofNat_of_zero_le hfs.1
                  have cx := cl' e _ (ints_get (by rw [H3.out.2.2.2.2]; omega))
                  rw [H3.out.2.2.2.1, hj] at cx
                  have hjl : j < p.steps.length := by have := hfs.2; omega
                  have hjl' : (j : Int) < (p.steps.length : Int) := by omega
                  obtain ⟨bs, os, rfl, hbs, p0, p1, p2, p3⟩ := (H3.out.1.below by2).step hjl
                  obtain ⟨st, hst2⟩ : ∃ st, st = stp p j := ⟨_, rfl⟩
                  rw [← hst2] at p0 p1 p2 p3
                  obtain ⟨q0, q1, q2, q3, q4, zp⟩ := (H3.out.1.below by2).cells
                  rw [← hgr] at q4
                  have hvw := (hB.block _ (heap_lt HY.out.1)).trans HY.out.1
                  have v0 := (cell_of_heap hvw 0).trans rfl
                  have v1 := (cell_of_heap hvw 1).trans rfl
                  have v2 := (cell_of_heap hvw 2).trans rfl
                  have v3 := (cell_of_heap hvw 3).trans rfl
                  have v4 := (cell_of_heap hvw 4).trans rfl
                  obtain ⟨b, hb⟩ : ∃ b, b = fulfils x.ves st := ⟨_, rfl⟩
                  have hbL : L.getD (z - n) false = b := by rw [HX.out.2.2.2.1, ← he, passes_get p days x.ves (by omega), hj, Int.toNat_natCast, hb, hst2]
                  have hful : ∀ wx, Calls Tryz.prog 87 #[.agg #[.int .i64 x.ves.cls, .int .i64 x.ves.ton, .bool x.ves.esc], .agg #[.int .i64 st.cls, .int .i64 st.ton, .int .i64 st.up, .int .i64 st.dn]] wx fun e w' => e = .returned (.bool b) ∧ Below wx.heap.size wx w' := fun wx => by
                    rw [hb]; exact rfulfils_any x.ves st wx (vright_cls HX.out.2.2.1)
                  have KC : ∀ {b o : Nat} {u : Value}, wr.cell? ⟨b, o, none⟩ = some u → ∀ w', Below wr.heap.size wr w' → w'.cell? ⟨b, o, none⟩ = some u := fun h w' hb => (hb.cell (World.block_lt_of_cell? wr _ h)).trans h
                  have q0' := KC q0
                  have q4' := KC q4
                  have p0' := KC p0
                  have p1' := KC p1
                  have p2' := KC p2
                  have p3' := KC p3
                  have v0' := KC v0
                  have v1' := KC v1
                  have v2' := KC v2
                  have v3' := KC v3
                  have v4' := KC v4
                  have cx' := KC cx
                  have n3 : (0 : Int) ≤ (e : Int) := by omega
                  have n4 : (e : Int) < (days.length : Int) := by omega
                  have n5 : (0 : Int) ≤ (j : Int) := by omega
                  have n6 : (a : Int) ≤ (e : Int) := by omega
                  have HT := Lib.hid (And.intro hbL hful)
                  clear hbL hful hfs hj hst2 KC p0 p1 p2 p3 q0 q1 q2 q3 q4 v0 v1 v2 cx cl' hvw hb hB hsd by2
                  have hN : ∀ {w5 : World}, Below wr.heap.size wr w5 → Below X.heap.size X w5 := fun h => HB.out.2.trans (h.mono HB.out.2.size)
                  have hye : L.getD (z - n) false = true → saidN p L a z (n + 1) = saidN p L a z n := fun h => by rw [saidN, h, if_pos rfl]
                  have hno : L.getD (z - n) false = false → saidN p L a z (n + 1) = if e = a then 1 else if (e : Int) + gr < z then 2 else 0 := fun h => by rw [saidN, h, he, hgr]; rfl
                  have HN := Lib.hid (And.intro @hN (And.intro hye hno))
                  have HE := Lib.hid (And.intro he hdd)
                  clear hN hye hno he hdd
                  cases b
                  · go_upto_region 23 with fail
                    go_region_held3 (fun w' => Below wr.heap.size wr w') (first | exact (Below.refl _ _).drew | assumption)
                      ((go_at_call 87
                        refine (HT.out.2 _).mono ?_
                        rintro e w3 ⟨rfl, b3⟩
                        have B3 : Below wr.heap.size wr w3 := (Below.refl _ _).drew.trans b3
                        clear b3))
                    have u3 := v3' _ B3
                    have u4 := v4' _ B3
                    have u5 := q4' _ B3
                    clear q0' q4' p0' p1' p2' p3' v0' v1' v2' v3' v4' cx' v3 v4 x3 x4
                    by_cases hla : (e : Int) + gr < (z : Int)
                    · by_cases hae : e = a
                      · have hea' : ((e : Int) == (a : Int)) = true := by simp [hae]
                        go_wp2_with fail
                        go_roundw
                        case measure => simp [intOf]; omega
                        case rel => exact ⟨n + 1, (e : Int) - 1, 1, by omega, by have := HE.out.2; omega, by rw [hae], rfl, by rw [HN.out.2.2 HT.out.1, if_pos hae], HN.out.1 B3⟩
                      · have hea' : ((e : Int) == (a : Int)) = false := by simp; omega
                        go_wp2_with fail
                        go_roundw
                        case measure => simp [intOf]; omega
                        case rel => exact ⟨n + 1, (e : Int) - 1, 2, by omega, by have := HE.out.2; omega, rfl, rfl, by rw [HN.out.2.2 HT.out.1, if_neg hae, if_pos hla], HN.out.1 B3⟩
                    · by_cases hae : e = a
                      · have hea' : ((e : Int) == (a : Int)) = true := by simp [hae]
                        go_wp2_with fail
                        go_roundw
                        case measure => simp [intOf]; omega
                        case rel => exact ⟨n + 1, (e : Int) - 1, 1, by omega, by have := HE.out.2; omega, by rw [hae], rfl, by rw [HN.out.2.2 HT.out.1, if_pos hae], HN.out.1 B3⟩
                      · have hea' : ((e : Int) == (a : Int)) = false := by simp; omega
                        go_wp2_with fail
                        go_roundw
                        case measure => simp [intOf]; omega
                        case rel => exact ⟨n + 1, (e : Int) - 1, 0, by omega, by have := HE.out.2; omega, rfl, rfl, by rw [HN.out.2.2 HT.out.1, if_neg hae, if_neg hla], HN.out.1 B3⟩
                  · go_upto_region 23 with fail
                    go_region_held3 (fun w' => Below wr.heap.size wr w') (first | exact (Below.refl _ _).drew | assumption)
                      ((go_at_call 87
                        refine (HT.out.2 _).mono ?_
                        rintro e w3 ⟨rfl, b3⟩
                        have B3 : Below wr.heap.size wr w3 := (Below.refl _ _).drew.trans b3
                        clear b3))
                    clear q0' q4' p0' p1' p2' p3' v0' v1' v2' v3' v4' cx' v3 v4 x3 x4
                    go_wp2_with fail
                    go_roundw
                    case measure => simp [intOf]; omega
                    case rel => exact ⟨n + 1, (e : Int) - 1, sd, by omega, by have := HE.out.2; omega, rfl, rfl, by rw [HB.out.1, HN.out.2.1 HT.out.1], HN.out.1 B3⟩
                · obtain rfl : n = z + 1 - a := by omega
                  have hee : dd < (a : Int) := by omega
                  obtain ⟨v3, v4⟩ : wr.cell? ⟨xb, 3, none⟩ = some (.int .i64 a) ∧ wr.cell? ⟨xb, 4, none⟩ = some (.int .i64 z) := by
                    have hvw := (hB.block _ (heap_lt HY.out.1)).trans HY.out.1
                    exact ⟨(cell_of_heap hvw 3).trans rfl, (cell_of_heap hvw 4).trans rfl⟩
                  have hR := HX.out.1.below (HY.out.2.1.trans (hB.mono HY.out.2.1.size))
                  have hou : sd = outcome p days l[k] := by rw [hsd, HX.out.2.2.2.2, HX.out.2.1]
                  have HZ := Lib.hid (And.intro hR hou)
                  clear hR hou hB hsd
                  have hk4 : k ≤ 500 := by omega
                  go_wp2_with (at_builtin
                               refine wpList_append_A rfl (.tmp 116) (.tmp 118) 22 rfl i0 _ 8 Tryz.underlying22 hi hz0 hz1 hz2 rfl (A := Ao) (n := k) (c := co) (xs := ints ((l.map (outcome p days)).take k)) (fp := q) (by simp [Act.eval]) _ (by simp [Act.eval]) (.int .i64 sd) (HZ.out.1.own.alloc _) (cell_new_one _ _ _) rfl (by omega) (by omega) ?_
                               intro g' off' c' w5 h1 h2 h3 h4
                               have HQ := Lib.hid (HZ.out.1.app hlt HZ.out.2 h1 h2 h4)
                               clear h1 h2 h3 h4)
                  go_roundw
                  case measure => simp [intOf]; omega
                  case rel => exact ⟨k + 1, _, c', _, by omega, by go_num, rfl, HQ.out⟩
            · obtain rfl : k = l.length := by omega
              have HS := Lib.hid hst
              clear hst
              go_wp2_with fail
              go_ret2
              have hrs : reviewS p days l = l.map (outcome p days) := by unfold reviewS; rw [if_pos H2.out.2.2.2.1]
              refine ⟨Ao, co, by rw [hrs, H2.out.2.2.2.1, List.length_map]; rfl, ?_, H3.out.1.bel.trans (HS.out.keep.below H3.out.1.bel.size (by simp))⟩
              rw [hrs]
              have hown := HS.out.own
              rw [List.take_of_length_le (by simp)] at hown
              exact ⟨by have := hown.rd; rwa [List.length_map], by rw [List.length_map]; exact hown.ge, hown.cap⟩
  · have hne : (er != 0) = true := by simp [h0]
    have HK := Lib.hid h0
    clear h0
    go_wp2_with fail
    go_ret2
    exact ReviewPost.bad (by rw [review_start (by rw [← HR.out.2.2.1]; exact HK.out), HR.out.2.2.1]) HK.out H1.out.1.bel
end Go.Proofs.YtbgnkljjgfcngaaGreat
/- RestrictVessels: what is kept from call tt call, and the calls, with letters for their answers -/
namespace Go.Proofs.YtbgnkljjgfcngaaGreat
open Go Go.RowKit Sp
set_option linter.unusedSimpArgs false
set_option linter.unusedVariables false

theorem pscs_one (l : List Psg) : ∀ u ∈ pscs l, u.oneCell' = true := by
  intro u hu
  simp only [pscs, psc, List.mem_flatMap] at hu
  obtain ⟨x, _, hx⟩ := hu
  simp at hx
  rcases hx with rfl | rfl | rfl | rfl | rfl <;> rfl
theorem pscs_snoc (l : List Psg) (x : Psg) : pscs (l ++ [x]) = pscs l ++ psc x := by simp [pscs]
theorem infoRPsg : (Tryz.prog.info? 109).map (fun i => (i.zero, i.size, i.bytes)) = some (some (.agg #[.int .i64 0, .int .i64 0, .bool false, .int .i64 0, .int .i64 0]), 5, 40) := by kernel_rfl
theorem psc_cells (w : World) (x : Psg) (t : TypeId) : ∀ j v, (psc x)[j]? = some v → (w.alloc (.cells #[.int .i64 x.ves.cls, .int .i64 x.ves.ton, .bool x.ves.esc, .int .i64 x.ent, .int .i64 x.lea] t)).cell? ((⟨w.heap.size, 0, none⟩ : Addr).add j) = some v := by
  intro j v hv
  rw [show (⟨w.heap.size, 0, none⟩ : Addr).add j = ⟨w.heap.size, j, none⟩ from by simp [Addr.add]; omega, World.cell?_alloc_new]
  simpa [psc] using hv
theorem sameVes (a b : Int) (c : Bool) (w : World) : (binOp .neq 94 (.agg #[.int .i64 a, .int .i64 b, .bool c]) (.agg #[.int .i64 a, .int .i64 b, .bool c])).run Tryz.prog w = .ok (.bool false) w := by
  have u3 := Tryz.underlying3
  have a3 := Tryz.isAgg3
  have z3 := Tryz.sizeOf3
  have u4 := Tryz.underlying4
  have a4 := Tryz.isAgg4
  have z4 := Tryz.sizeOf4
  have hS : Tryz.prog.underlying 94 = some (.struct (Tryz.prog.fieldsOf 94)) := by kernel_rfl
  have hp : Tryz.prog.stoodInHeld 94 = false := by kernel_rfl
  rw [run_neq_struct, show (10000 : Nat) = 9999 + 1 from rfl, run_equalIn_agg w 9999 94 _ _ hS hp]
  simp only [Program.fieldsOf, Tryz.underlying94]
  go_simp

/-- the two policies and vessels in their blocks, own copies and originals of the history and of the passages -/
structure VQ (w X : World) (b13 b14 b15 vb : Nat) (p : Pol) (v : Ves) (days : List Int) (l : List Psg) (Ac : Option Addr) (cc : Nat) (Ap : Option Addr) (cp : Nat) (A Ao Aq Al : Option Addr) : Prop where
  h13 : X.heap[b13]? = some (.cells #[.slice Ac p.steps.length cc, .int .i64 p.hold, .int .i64 p.calm, .int .i64 p.notice, .int .i64 p.grace] 25 (0, 0))
  h14 : X.heap[b14]? = some (.cells #[.slice Ap p.steps.length cp, .int .i64 p.hold, .int .i64 p.calm, .int .i64 p.notice, .int .i64 p.grace] 65 (0, 0))
  h15 : X.heap[b15]? = some (.cells #[.int .i64 v.cls, .int .i64 v.ton, .bool v.esc] 94 (0, 0))
  hv : X.heap[vb]? = some (.cells #[.int .i64 v.cls, .int .i64 v.ton, .bool v.esc] 29 (0, 0))
  pq : PolV X Ac cc p
  pr : PolV X Ap cp p
  ro : Rd X 1 Ao days.length (ints days)
  ra : Rd X 1 A days.length (ints days)
  rq : Rd X 5 Aq l.length (pscs l)
  rl : Rd X 5 Al l.length (pscs l)
  bel : Below w.heap.size w X
section
variable {w X Y : World} {b13 b14 b15 vb : Nat} {p : Pol} {v : Ves} {days : List Int} {l : List Psg} {Ac : Option Addr} {cc : Nat} {Ap : Option Addr} {cp : Nat} {A Ao Aq Al : Option Addr}
theorem VQ.below (h : VQ w X b13 b14 b15 vb p v days l Ac cc Ap cp A Ao Aq Al) (hb : Below X.heap.size X Y) : VQ w Y b13 b14 b15 vb p v days l Ac cc Ap cp A Ao Aq Al :=
  ⟨(hb.block _ (heap_lt h.h13)).trans h.h13, (hb.block _ (heap_lt h.h14)).trans h.h14, (hb.block _ (heap_lt h.h15)).trans h.h15, (hb.block _ (heap_lt h.hv)).trans h.hv, ⟨h.pq.1, h.pq.2.1, h.pq.2.2.below hb⟩, ⟨h.pr.1, h.pr.2.1, h.pr.2.2.below hb⟩, h.ro.below hb, h.ra.below hb, h.rq.below hb, h.rl.below hb, h.bel.trans (hb.mono h.bel.size)⟩
theorem VQ.cells (h : VQ w X b13 b14 b15 vb p v days l Ac cc Ap cp A Ao Aq Al) : (X.cell? ⟨b13, 0, none⟩ = some (.slice Ac p.steps.length cc) ∧ X.cell? ⟨b13, 1, none⟩ = some (.int .i64 p.hold) ∧ X.cell? ⟨b13, 2, none⟩ = some (.int .i64 p.calm) ∧ X.cell? ⟨b13, 3, none⟩ = some (.int .i64 p.notice) ∧ X.cell? ⟨b13, 4, none⟩ = some (.int .i64 p.grace) ∧ b13 < X.heap.size) ∧
    (X.cell? ⟨b14, 0, none⟩ = some (.slice Ap p.steps.length cp) ∧ X.cell? ⟨b14, 1, none⟩ = some (.int .i64 p.hold) ∧ X.cell? ⟨b14, 2, none⟩ = some (.int .i64 p.calm) ∧ X.cell? ⟨b14, 3, none⟩ = some (.int .i64 p.notice) ∧ X.cell? ⟨b14, 4, none⟩ = some (.int .i64 p.grace) ∧ b14 < X.heap.size) ∧
    (X.cell? ⟨b15, 0, none⟩ = some (.int .i64 v.cls) ∧ X.cell? ⟨b15, 1, none⟩ = some (.int .i64 v.ton) ∧ X.cell? ⟨b15, 2, none⟩ = some (.bool v.esc) ∧ b15 < X.heap.size) ∧
    (X.cell? ⟨vb, 0, none⟩ = some (.int .i64 v.cls) ∧ X.cell? ⟨vb, 1, none⟩ = some (.int .i64 v.ton) ∧ X.cell? ⟨vb, 2, none⟩ = some (.bool v.esc) ∧ vb < X.heap.size) :=
  ⟨⟨(cell_of_heap h.h13 0).trans rfl, (cell_of_heap h.h13 1).trans rfl, (cell_of_heap h.h13 2).trans rfl, (cell_of_heap h.h13 3).trans rfl, (cell_of_heap h.h13 4).trans rfl, heap_lt h.h13⟩,
   ⟨(cell_of_heap h.h14 0).trans rfl, (cell_of_heap h.h14 1).trans rfl, (cell_of_heap h.h14 2).trans rfl, (cell_of_heap h.h14 3).trans rfl, (cell_of_heap h.h14 4).trans rfl, heap_lt h.h14⟩,
   ⟨(cell_of_heap h.h15 0).trans rfl, (cell_of_heap h.h15 1).trans rfl, (cell_of_heap h.h15 2).trans rfl, heap_lt h.h15⟩,
   (cell_of_heap h.hv 0).trans rfl, (cell_of_heap h.hv 1).trans rfl, (cell_of_heap h.hv 2).trans rfl, heap_lt h.hv⟩
end

abbrev vqV (v : Ves) : Value := .agg #[.int .i64 v.cls, .int .i64 v.ton, .bool v.esc]
/-- the calls' contracts, with letters -/
structure VC (w : World) (b13 b14 b15 vb : Nat) (p : Pol) (v : Ves) (days : List Int) (l : List Psg) (day tt : Int) (Ac : Option Addr) (cc : Nat) (Ap : Option Addr) (cp : Nat) (Ao : Option Addr) (co : Nat) (A : Option Addr) (c : Nat) (Aq : Option Addr) (cq : Nat) (Al : Option Addr) (cl : Nat)
    (mB : Bool) (mE : Int) (LW : List (Int × Int)) (wE fN fE nc nt : Int) (ne : Bool) (nE : Int) (LR : List Int) (rE : Int) : Prop where
  may : ∀ X, VQ w X b13 b14 b15 vb p v days l Ac cc Ap cp A Ao Aq Al → Calls Tryz.prog 39 #[pqV Ac cc p, .slice Ao days.length co, vqV v, .int .i64 day] X fun e Y => e = .returned (.tuple #[.bool mB, .int .i64 mE]) ∧ Below X.heap.size X Y
  win : ∀ X, VQ w X b13 b14 b15 vb p v days l Ac cc Ap cp A Ao Aq Al → Calls Tryz.prog 41 #[pqV Ac cc p, .slice Ao days.length co, vqV v] X fun e Y => ∃ A1 c1, e = .returned (.tuple #[.slice A1 LW.length c1, .int .i64 wE]) ∧ Rd Y 2 A1 LW.length (spcs LW) ∧ Below X.heap.size X Y
  fir : ∀ X, VQ w X b13 b14 b15 vb p v days l Ac cc Ap cp A Ao Aq Al → Calls Tryz.prog 44 #[pqV Ac cc p, .slice Ao days.length co, vqV v, .int .i64 day] X fun e Y => e = .returned (.tuple #[.int .i64 fN, .int .i64 fE]) ∧ Below X.heap.size X Y
  nee : ∀ X, VQ w X b13 b14 b15 vb p v days l Ac cc Ap cp A Ao Aq Al → Calls Tryz.prog 46 #[pqV Ac cc p, .slice Ao days.length co, .int .i64 day, .int .i64 tt] X fun e Y => e = .returned (.tuple #[.agg #[.int .i64 nc, .int .i64 nt, .bool ne], .int .i64 nE]) ∧ Below X.heap.size X Y
  rmay : ∀ X, VQ w X b13 b14 b15 vb p v days l Ac cc Ap cp A Ao Aq Al → Calls Tryz.prog 40 #[pqV Ap cp p, .slice A days.length c, vqV v, .int .i64 day] X fun e Y => e = .returned (.tuple #[.bool mB, .int .i64 mE]) ∧ Below X.heap.size X Y
  rwin : ∀ X, VQ w X b13 b14 b15 vb p v days l Ac cc Ap cp A Ao Aq Al → Calls Tryz.prog 42 #[pqV Ap cp p, .slice A days.length c, vqV v] X fun e Y => ∃ A1 c1, e = .returned (.tuple #[.slice A1 LW.length c1, .int .i64 wE]) ∧ Rd Y 2 A1 LW.length (spcs LW) ∧ Below X.heap.size X Y
  rfir : ∀ X, VQ w X b13 b14 b15 vb p v days l Ac cc Ap cp A Ao Aq Al → Calls Tryz.prog 45 #[pqV Ap cp p, .slice A days.length c, vqV v, .int .i64 day] X fun e Y => e = .returned (.tuple #[.int .i64 fN, .int .i64 fE]) ∧ Below X.heap.size X Y
  rnee : ∀ X, VQ w X b13 b14 b15 vb p v days l Ac cc Ap cp A Ao Aq Al → Calls Tryz.prog 47 #[pqV Ap cp p, .slice A days.length c, .int .i64 day, .int .i64 tt] X fun e Y => e = .returned (.tuple #[.agg #[.int .i64 nc, .int .i64 nt, .bool ne], .int .i64 nE]) ∧ Below X.heap.size X Y
  rev : ∀ X, VQ w X b13 b14 b15 vb p v days l Ac cc Ap cp A Ao Aq Al → Calls Tryz.prog 13 #[pqV Ac cc p, .slice Ao days.length co, .slice Aq l.length cq] X fun e Y => ∃ A1 c1, e = .returned (.tuple #[.slice A1 LR.length c1, .int .i64 rE]) ∧ Rd Y 1 A1 LR.length (ints LR) ∧ Below X.heap.size X Y
  rrev : ∀ X Ax cx, VQ w X b13 b14 b15 vb p v days l Ac cc Ap cp A Ao Aq Al → Rd X 5 Ax l.length (pscs l) → Calls Tryz.prog 48 #[pqV Ap cp p, .slice A days.length c, .slice Ax l.length cx] X fun e Y => ∃ A1 c1, e = .returned (.tuple #[.slice A1 LR.length c1, .int .i64 rE]) ∧ Rd Y 1 A1 LR.length (ints LR) ∧ Below X.heap.size X Y
  sam : ∀ X, VQ w X b13 b14 b15 vb p v days l Ac cc Ap cp A Ao Aq Al → Calls Tryz.prog 36 #[pqV Ac cc p, pqV Ap cp p] X fun e Y => e = .returned (.bool true) ∧ Below X.heap.size X Y
  smi : ∀ X, VQ w X b13 b14 b15 vb p v days l Ac cc Ap cp A Ao Aq Al → Calls Tryz.prog 24 #[.slice Ao days.length co, .slice A days.length c] X fun e Y => e = .returned (.bool true) ∧ Below X.heap.size X Y
  smo : ∀ X, VQ w X b13 b14 b15 vb p v days l Ac cc Ap cp A Ao Aq Al → Calls Tryz.prog 49 #[.slice Aq l.length cq, .slice Al l.length cl] X fun e Y => e = .returned (.bool true) ∧ Below X.heap.size X Y
  nW : LW.length ≤ 9223372036854775807
  nR : LR.length ≤ 9223372036854775807

theorem vc_all (w : World) (b13 b14 b15 vb : Nat) (p : Pol) (v : Ves) (days : List Int) (l : List Psg) (day tt : Int) (Ac : Option Addr) (cc : Nat) (Ap : Option Addr) (cp : Nat) (Ao : Option Addr) (co : Nat) (A : Option Addr) (c : Nat) (Aq : Option Addr) (cq : Nat) (Al : Option Addr) (cl : Nat)
    (hps : p.steps.length ≤ 20) (hd : days.length ≤ 420) (hl : l.length ≤ 520) :
    VC w b13 b14 b15 vb p v days l day tt Ac cc Ap cp Ao co A c Aq cq Al cl (mayB p days v day) (mayE p days v day) (windowsS p days v) (askS p days v) (firN p days v day) (firE p days v day) (needV p days day tt).cls (needV p days day tt).ton (needV p days day tt).esc (needE p days day tt) (reviewS p days l) (reviewE p days l) where
  may X h := May_any Ac cc p Ao co days v day X h.pq h.ro (by omega)
  rmay X h := rMay_any Ap cp p A c days v day X h.pr h.ra (by omega)
  win X h := (Windows_any Ac cc p Ao co days v X h.pq h.ro (by omega)).mono fun e Y ⟨A1, c1, h1, h2, h3⟩ => ⟨A1, c1, h1, h2.1, h3⟩
  rwin X h := rWindows_any Ap cp p A c days v X h.pr h.ra (by omega)
  fir X h := First_any Ac cc p Ao co days v day X h.pq h.ro (by omega)
  rfir X h := rFirst_any Ap cp p A c days v day X h.pr h.ra (by omega)
  nee X h := Need_any Ac cc p Ao co days day tt X h.pq h.ro (by omega)
  rnee X h := rNeed_any Ap cp p A c days day tt X h.pr h.ra (by omega)
  rev X h := (Review_any Ac cc p Ao co days Aq cq l X h.pq h.ro (by omega) h.rq (by omega)).mono fun e Y ⟨A1, c1, h1, h2, h3⟩ => ⟨A1, c1, h1, h2.1, h3⟩
  rrev X Ax cx h hx := (rReview_any Ap cp p A c days Ax cx l X h.pr h.ra (by omega) hx (by omega)).mono fun e Y ⟨A1, c1, h1, h2, h3⟩ => ⟨A1, c1, h1, h2.1, h3⟩
  sam X h := same_any Ac cc p Ap cp X h.pq h.pr.2.2 (by omega)
  smi X h := sameInts_any Ao co days A c X h.ro h.ra (by omega)
  smo X h := eqPsg_same Aq cq l Al cl X h.rq h.rl (by omega)
  nW := by
    unfold windowsS; split
    · have := winN_length (passesS p days v) days.length; omega
    · simp
  nR := by
    unfold reviewS; split
    · rw [List.length_map]; omega
    · simp
end Go.Proofs.YtbgnkljjgfcngaaGreat
