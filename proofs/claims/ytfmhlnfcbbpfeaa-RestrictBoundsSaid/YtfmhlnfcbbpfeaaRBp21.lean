/- polynyaref08.Review: the walk -/
import Derived.Test.YtfmhlnfcbbpfeaaRBp20
import Derived.Test.YtfmhlnfcbbpfeaaRBp6
import Derived.Test.YtfmhlnfcbbpfeaaRBp1
import Derived.Test.YtfmhlnfcbbpfeaaRBp2
set_option linter.unusedVariables false
namespace Go.Proofs.Ytfmhlnfcbbpfeaa
open Go Go.RowKit Sp
set_option linter.unusedSimpArgs false
set_option linter.unusedVariables false

/-- between the passages -/
structure RvSt (W wr : World) (p : Pol) (days : List Int) (l : List Psg) (k : Nat) (Ao : Option Addr) (co : Nat) (q : List Nat) : Prop where
  own : OwnA wr 3 Ao k co (ints ((l.map (outcome p days)).take k)) q
  new : ∀ g ∈ q, W.heap.size ≤ g
  keep : Keep [] W wr
theorem RvSt.below {W wr w2 : World} {p : Pol} {days : List Int} {l : List Psg} {k : Nat} {Ao : Option Addr} {co : Nat} {q : List Nat} (h : RvSt W wr p days l k Ao co q) (hb : Below wr.heap.size wr w2) : RvSt W w2 p days l k Ao co q :=
  ⟨h.own.keepS (Keep.of_below (S := []) hb) (by simp), h.new, h.keep.trans (Keep.of_below (S := []) hb) (by simp)⟩
theorem RvSt.app {W wr w5 : World} {p : Pol} {days : List Int} {l : List Psg} {k : Nat} {Ao : Option Addr} {co : Nat} {q : List Nat} {o : Obj} {g off c' : Nat} {u : Int} (h : RvSt W wr p days l k Ao co q) (hk : k < l.length) (hu : u = outcome p days l[k])
    (h1 : OwnA w5 3 (some ⟨g, off, none⟩) (k + 1) c' (ints ((l.map (outcome p days)).take k) ++ [.int .i64 u]) [g]) (h2 : g ∈ q ∨ (wr.alloc o).heap.size = g) (h4 : Keep q (wr.alloc o) w5) : RvSt W w5 p days l (k + 1) (some ⟨g, off, none⟩) c' [g] := by
  refine ⟨?_, fun y hy => ?_, (h.keep.alloc _).trans h4 (fun y hy => .inr (h.new _ hy))⟩
  · rw [List.take_succ_eq_append_getElem (by simpa using hk), List.getElem_map, ← hu]
    simpa [ints] using h1
  · rw [List.mem_singleton.1 hy]
    rcases h2 with h2 | h2
    · exact h.new _ h2
    · have := h.keep.size; simp at h2; omega

set_option maxRecDepth 100000 in
set_option maxHeartbeats 8000000 in
theorem rReview_any (As : Option Addr) (cs : Nat) (p : Pol) (A : Option Addr) (c : Nat) (days : List Int) (Al : Option Addr) (cl : Nat) (l : List Psg) (w : World) (hp : PolV w As cs p) (hr : Rd w 1 A days.length (ints days)) (hm : days.length ≤ 9223372036854775807)
    (hrl : Rd w 5 Al l.length (pscs l)) (hml : l.length ≤ 9223372036854775807) :
    Calls Try.prog 53 #[.agg #[.slice As p.steps.length cs, .int .i64 p.hold, .int .i64 p.calm, .int .i64 p.notice, .int .i64 p.grace], .slice A days.length c, .slice Al l.length cl] w (ReviewPost w p days l) := by
  obtain ⟨i0, hi, hz0, hz1, hz2⟩ := info_parts info_int
  have rd0 := RD.new (A := A) (days := days) hp hr
  obtain ⟨W, hW⟩ : ∃ W, W = w.alloc (.cells #[.slice As p.steps.length cs, .int .i64 p.hold, .int .i64 p.calm, .int .i64 p.notice, .int .i64 p.grace] 70) := ⟨_, rfl⟩
  obtain ⟨ob, hob⟩ : ∃ ob, ob = w.heap.size := ⟨_, rfl⟩
  rw [← hW, ← hob] at rd0
  obtain ⟨er, her⟩ : ∃ er, er = startS p days := ⟨_, rfl⟩
  have k1 := begun_any As cs p A c days W rd0.pol rd0.dys hm
  rw [← her] at k1
  obtain ⟨q0, q1, q2, q3, q4, zp⟩ := rd0.cells
  have HR := Lib.hid (And.intro rd0 (And.intro k1 (And.intro her (hrl.below rd0.bel))))
  clear hp hr rd0 k1 her hrl
  go_enter Try.func53, Try.ntmps53
  go_upto_region 1 with fail
  rw [← hW, ← hob]
  clear hW hob
  go_wp2_with fail
  refine HR.out.2.1.mono ?_
  rintro e w1 ⟨rfl, b1⟩
  have rd1 := HR.out.1.below b1
  have H1 := Lib.hid (And.intro rd1 (HR.out.2.2.2.below b1))
  clear q0 q1 q2 q3 q4 zp b1 rd1
  by_cases h0 : er = 0
  · subst h0
    have hst : startS p days = 0 := HR.out.2.2.1.symm
    obtain ⟨hck, hl4, _⟩ := start_ok hst
    have HK := Lib.hid (And.intro hst hck)
    clear hst hck
    by_cases hbig : 500 < l.length
    · have hbig' : (500 : Int) < (l.length : Int) := by omega
      have HG := Lib.hid hbig'
      go_wp2_with fail
      go_ret2
      exact ReviewPost.bad (review_many HK.out.1 HG.out) (by decide) H1.out.1.bel
    · have hbig' : ¬ (500 : Int) < (l.length : Int) := by omega
      have hre : reviewE p days l = psgsE days.length l := review_psgs HK.out.1 hbig'
      have HRE := Lib.hid hre
      clear hre
      go_wp2_with fail
      go_loopw [9] (fun i wr => ∃ k : Nat, k ≤ l.length ∧ i = .int .i64 k ∧ (∀ x ∈ l.take k, psgE days.length x = 0) ∧ Below w1.heap.size w1 wr) (fun i _ => l.length - (intOf i).toNat)
      case atStart => exact ⟨0, Nat.zero_le _, rfl, by simp, Below.refl _ _⟩
      case round =>
        obtain ⟨k, hk, rfl, hall, hb⟩ := hrel
        have HB := Lib.hid (And.intro hall hb)
        by_cases hlt : k < l.length
        · obtain ⟨b, off, rfl, zb, hc⟩ := (H1.out.2.below hb).2 (by omega)
          obtain ⟨x, hx⟩ : ∃ x, x = l[k] := ⟨_, rfl⟩
          obtain ⟨s0, s1, s2, s3, s4⟩ := pscs_get hlt
          rw [← hx] at s0 s1 s2 s3 s4
          have c0 := hc _ _ s0
          have c1 : wr.cell? ⟨b, off + k*5 + 1, none⟩ = _ := hc _ _ s1
          have c2 : wr.cell? ⟨b, off + k*5 + 2, none⟩ = _ := hc _ _ s2
          have c3 : wr.cell? ⟨b, off + k*5 + 3, none⟩ = _ := hc _ _ s3
          have c4 : wr.cell? ⟨b, off + k*5 + 4, none⟩ = _ := hc _ _ s4
          have n1 : (0 : Int) ≤ (k : Int) := by omega
          have n2 : (k : Int) < (l.length : Int) := by omega
          obtain ⟨vr, hvr⟩ : ∃ vr, vr = vright x.ves := ⟨_, rfl⟩
          have hcal : ∀ wx, Calls Try.prog 100 #[.agg #[.int .i64 x.ves.cls, .int .i64 x.ves.ton, .bool x.ves.esc]] wx fun e w' => e = .returned (.bool vr) ∧ Below wx.heap.size wx w' := fun wx => by rw [hvr]; exact rvessel_any x.ves wx
          have hbad : ∀ {er : Int} {w' : World}, psgE days.length x = er → er ≠ 0 → Below wr.heap.size wr w' → ReviewPost w p days l (.returned (.tuple #[.slice none 0 0, .int .i64 er])) w' := fun he h0 hB => by
            refine ReviewPost.bad (HRE.out.trans ?_) h0 (H1.out.1.bel.trans ((HB.out.2.trans (hB.mono HB.out.2.size)).mono H1.out.1.bel.size))
            rw [psgsE_at hlt HB.out.1 (by rw [← hx, he]; exact h0), ← hx, he]
          have hgood : ∀ {w' : World}, psgE days.length x = 0 → Below wr.heap.size wr w' → (∀ x ∈ l.take (k + 1), psgE days.length x = 0) ∧ Below w1.heap.size w1 w' := fun he hB => ⟨fun y hy => by
            rw [List.take_succ_eq_append_getElem hlt] at hy
            rcases List.mem_append.1 hy with h | h
            · exact HB.out.1 y h
            · rw [List.mem_singleton.1 h, ← hx]; exact he, HB.out.2.trans (hB.mono HB.out.2.size)⟩
          have HX := Lib.hid (And.intro hvr (And.intro hcal (And.intro @hbad @hgood)))
          clear s0 s1 s2 s3 s4 hc hx hvr hcal hbad hgood hall hb
          cases vr
          · go_wp2_with (go_at_call 100; refine (HX.out.2.1 _).mono ?_; rintro e w2 ⟨rfl, b2⟩)
            go_ret2
            exact HX.out.2.2.1 (psgE_bad HX.out.1.symm) (by decide) b2
          · obtain ⟨r1, hr1⟩ : ∃ r, r = within x.ent 0 ((days.length : Int) - 1) := ⟨_, rfl⟩
            obtain ⟨r2, hr2⟩ : ∃ r, r = within x.lea 0 ((days.length : Int) - 1) := ⟨_, rfl⟩
            have in1 : ∀ wx, Calls Try.prog 92 #[.int .i64 x.ent, .int .i64 0, .int .i64 ((days.length : Int) - 1)] wx fun e w' => e = .returned (.bool r1) ∧ w' = wx := fun wx => by rw [hr1]; exact (rin_any x.ent 0 _ wx).mono fun e w' ⟨h1, h2⟩ => ⟨h1, h2.symm⟩
            have in2 : ∀ wx, Calls Try.prog 92 #[.int .i64 x.lea, .int .i64 0, .int .i64 ((days.length : Int) - 1)] wx fun e w' => e = .returned (.bool r2) ∧ w' = wx := fun wx => by rw [hr2]; exact (rin_any x.lea 0 _ wx).mono fun e w' ⟨h1, h2⟩ => ⟨h1, h2.symm⟩
            have hE := psgE_ref (n := days.length) HX.out.1.symm
            rw [← hr1, ← hr2] at hE
            have HD := Lib.hid (And.intro in1 (And.intro in2 hE))
            clear hr1 hr2 in1 in2 hE
            have w6 : IntKind.i64.wrap ((days.length : Int) - 1) = (days.length : Int) - 1 := IntWalk.i64_in _ (by omega)
            have hlD : (decide (x.lea < x.ent) = true ∧ x.lea < x.ent) ∨ (decide (x.lea < x.ent) = false ∧ ¬ x.lea < x.ent) := by by_cases h : x.lea < x.ent <;> simp [h]
            have HL := Lib.hid hlD
            clear hlD
            obtain ⟨ok, hok⟩ : ∃ ok, ok = (r1 && r2 && !decide (x.lea < x.ent)) := ⟨_, rfl⟩
            have hE2 : psgE days.length x = if ok = true then 0 else 6 := by
              rw [HD.out.2.2, hok]
              simp [and_assoc]
            have HO := Lib.hid (And.intro hok hE2)
            clear hok hE2
            go_upto_region 11 with (go_at_call 100; refine (HX.out.2.1 _).mono ?_; rintro e w2 ⟨rfl, b2⟩)
            have c0 := (b2.cell (World.block_lt_of_cell? _ _ c0)).trans c0
            have c1 := (b2.cell (World.block_lt_of_cell? _ _ c1)).trans c1
            have c2 := (b2.cell (World.block_lt_of_cell? _ _ c2)).trans c2
            have c3 := (b2.cell (World.block_lt_of_cell? _ _ c3)).trans c3
            have c4 := (b2.cell (World.block_lt_of_cell? _ _ c4)).trans c4
            have B2 := Lib.hid b2
            clear b2
            go_cut [72] from 38 to 72 (fun b wx => b = .bool (!ok) ∧ ∃ nq, wx = w2.drewN nq)
            case first =>
              rcases HL.out with ⟨e3, _⟩ | ⟨e3, _⟩
              all_goals cases r1
              all_goals cases r2
              all_goals
                go_quiet ((first | (go_at_call 92; with_reducible exact Calls.quiet_of_same (HD.out.1 _)) | (go_at_call 92; with_reducible exact Calls.quiet_of_same (HD.out.2.1 _))))
                go_wp2_with fail
                go_meet
                exact ⟨by rw [HO.out.1, e3]; rfl, _, rfl⟩
            case rest =>
            obtain ⟨rfl, nq, rfl⟩ := hcut
            cases ok
            · go_wp2_with fail
              go_ret2
              exact HX.out.2.2.1 (by rw [HO.out.2]; rfl) (by decide) (below_drewN B2.out _)
            · go_wp2_with fail
              go_roundw
              case measure => simp [intOf]; omega
              case rel => exact ⟨k + 1, by omega, by go_num, HX.out.2.2.2 (by rw [HO.out.2]; rfl) (below_drewN B2.out _)⟩
        · obtain rfl : k = l.length := by omega
          have hz : psgsE days.length l = 0 := psgsE_zero (by have := HB.out.1; rwa [List.take_length] at this)
          have rd2 := H1.out.1.below hb
          have k2 := rforce_any As cs p A c days wr rd2.pol rd2.dys HK.out.2 hl4
          obtain ⟨q0, q1, q2, q3, q4, zp⟩ := rd2.cells
          have H2 := Lib.hid (And.intro rd2 (And.intro (H1.out.2.below hb) (And.intro k2 (And.intro (HRE.out.trans hz) (show ∀ x ∈ l, psgE days.length x = 0 from by have := HB.out.1; rwa [List.take_length] at this)))))
          clear rd2 k2 hz hall hb HB
          go_wp2_with fail
          refine H2.out.2.2.1.mono ?_
          rintro e W2 ⟨Af, cf, rfl, h1, _, _, b2⟩
          obtain ⟨F, hF⟩ : ∃ F, F = forceS p days := ⟨_, rfl⟩
          have hFl : F.length = days.length := by rw [hF, forceS_length]
          rw [← hF] at h1
          have H3 := Lib.hid (And.intro (H2.out.1.below b2) (And.intro (H2.out.2.1.below b2) (And.intro h1 (And.intro hF hFl))))
          clear h1 b2 q0 q1 q2 q3 q4 zp hF hFl
          have hg0 : 0 ≤ p.grace ∧ p.grace ≤ 60 := by have := check_ok HK.out.2; omega
          obtain ⟨gr, hgr⟩ : ∃ gr, gr = p.grace := ⟨_, rfl⟩
          rw [← hgr] at hg0
          go_wp2_with fail
          go_loopw [10, 12] (fun o i wr => ∃ (k : Nat) (Ao : Option Addr) (co : Nat) (q : List Nat), k ≤ l.length ∧ i = .int .i64 k ∧ o = .slice Ao k co ∧ RvSt W2 wr p days l k Ao co q) (fun _ i _ => l.length - (intOf i).toNat)
          case atStart => exact ⟨0, none, 0, [], Nat.zero_le _, rfl, rfl, OwnA.nil _ _, by simp, Keep.refl _ _⟩
          case round =>
            obtain ⟨k, Ao, co, q, hk, rfl, rfl, hst⟩ := hrel
            by_cases hlt : k < l.length
            · have bk : Below W2.heap.size W2 wr := hst.keep.below (Nat.le_refl _) (by simp)
              obtain ⟨b, off, rfl, zb, hc⟩ := (H3.out.2.1.below bk).2 (by omega)
              obtain ⟨x, hx⟩ : ∃ x, x = l[k] := ⟨_, rfl⟩
              obtain ⟨s0, s1, s2, s3, s4⟩ := pscs_get hlt
              rw [← hx] at s0 s1 s2 s3 s4
              have hx0 : psgE days.length x = 0 := by rw [hx]; exact H2.out.2.2.2.2 _ (List.getElem_mem hlt)
              obtain ⟨hxv, a, z, ha, hz, haz, hzn⟩ := psg_ok hx0
              rw [ha] at s3
              rw [hz] at s4
              have c0 := hc _ _ s0
              have c1 : wr.cell? ⟨b, off + k*5 + 1, none⟩ = _ := hc _ _ s1
              have c2 : wr.cell? ⟨b, off + k*5 + 2, none⟩ = _ := hc _ _ s2
              have c3 : wr.cell? ⟨b, off + k*5 + 3, none⟩ = _ := hc _ _ s3
              have c4 : wr.cell? ⟨b, off + k*5 + 4, none⟩ = _ := hc _ _ s4
              obtain ⟨L, hL⟩ : ∃ L, L = passesS p days x.ves := ⟨_, rfl⟩
              have hso := said_outcome (p := p) ha hz haz hzn
              rw [← hL] at hso
              have n1 : (0 : Int) ≤ (k : Int) := by omega
              have n2 : (k : Int) < (l.length : Int) := by omega
              have HX := Lib.hid (And.intro hst (And.intro hx (And.intro hxv (And.intro hL hso))))
              clear s0 s1 s2 s3 s4 hc hx hx0 ha hz hL hso hxv hst
              obtain ⟨X, hX⟩ : ∃ X, X = wr.alloc (.cells #[.int .i64 x.ves.cls, .int .i64 x.ves.ton, .bool x.ves.esc, .int .i64 a, .int .i64 z] 102) := ⟨_, rfl⟩
              obtain ⟨xb, hxb⟩ : ∃ xb, xb = wr.heap.size := ⟨_, rfl⟩
              have hxh : X.heap[xb]? = some (.cells #[.int .i64 x.ves.cls, .int .i64 x.ves.ton, .bool x.ves.esc, .int .i64 a, .int .i64 z] 102 (0, 0)) := by rw [hX, hxb]; exact heap_alloc_new _ _
              have bX : Below wr.heap.size wr X := by rw [hX]; exact (Below.refl _ _).alloc (Nat.le_refl _) _
              have x3 := (cell_of_heap hxh 3).trans rfl
              have x4 := (cell_of_heap hxh 4).trans rfl
              have HY := Lib.hid (And.intro hxh (And.intro bX (bk.trans (bX.mono bk.size))))
              clear hxh bX bk
              go_upto_region 19 with fail
              rw [← hX, ← hxb]
              clear hX hxb
              go_wp2_with fail
              go_loopw [14, 15] (fun s d wy => ∃ (n : Nat) (dd sd : Int), n ≤ z + 1 - a ∧ dd = (z : Int) - n ∧ d = .int .i64 dd ∧ s = .int .i64 sd ∧ sd = saidN p L a z n ∧ Below X.heap.size X wy) (fun _ d _ => (intOf d + 1 - a).toNat)
              case atStart => exact ⟨0, z, 0, Nat.zero_le _, by simp, rfl, rfl, rfl, Below.refl _ _⟩
              case round =>
                obtain ⟨n, dd, sd, hn, hdd, rfl, rfl, hsd, hB⟩ := hrel
                have HB := Lib.hid (And.intro hsd hB)
                by_cases hlz : n < z + 1 - a
                · obtain ⟨e, he⟩ : ∃ e : Nat, e = z - n := ⟨_, rfl⟩
                  obtain rfl : dd = (e : Int) := by omega
                  have hea : a ≤ e := by omega
                  have hez : e ≤ z := by omega
                  have by2 : Below W2.heap.size W2 wr := HY.out.2.2.trans (hB.mono HY.out.2.2.size)
                  obtain ⟨bl, ol, rfl, zl, cl'⟩ := (H3.out.2.2.1.below by2).2 (by omega)
                  have hfs := force_step HK.out.2 days e
                  obtain ⟨j, hj⟩ := Int.eq_ofNat_of_zero_le hfs.1
                  have cx := cl' e _ (ints_get (by rw [H3.out.2.2.2.2]; omega))
                  rw [H3.out.2.2.2.1, hj] at cx
                  have hjl : j < p.steps.length := by have := hfs.2; omega
                  have hjl' : (j : Int) < (p.steps.length : Int) := by omega
                  obtain ⟨bs, os, rfl, hbs, p0, p1, p2, p3⟩ := (H3.out.1.below by2).step hjl
                  obtain ⟨st, hst2⟩ : ∃ st, st = stp p j := ⟨_, rfl⟩
                  rw [← hst2] at p0 p1 p2 p3
                  obtain ⟨q0, q1, q2, q3, q4, zp⟩ := (H3.out.1.below by2).cells
                  rw [← hgr] at q4
                  have hvw := (hB.block _ (heap_lt HY.out.1)).trans HY.out.1
                  have v0 := (cell_of_heap hvw 0).trans rfl
                  have v1 := (cell_of_heap hvw 1).trans rfl
                  have v2 := (cell_of_heap hvw 2).trans rfl
                  have v3 := (cell_of_heap hvw 3).trans rfl
                  have v4 := (cell_of_heap hvw 4).trans rfl
                  obtain ⟨b, hb⟩ : ∃ b, b = fulfils x.ves st := ⟨_, rfl⟩
                  have hbL : L.getD (z - n) false = b := by rw [HX.out.2.2.2.1, ← he, passes_get p days x.ves (by omega), hj, Int.toNat_natCast, hb, hst2]
                  have hful : ∀ wx, Calls Try.prog 99 #[.agg #[.int .i64 x.ves.cls, .int .i64 x.ves.ton, .bool x.ves.esc], .agg #[.int .i64 st.cls, .int .i64 st.ton, .int .i64 st.up, .int .i64 st.dn]] wx fun e w' => e = .returned (.bool b) ∧ Below wx.heap.size wx w' := fun wx => by
                    rw [hb]; exact rfulfils_any x.ves st wx (vright_cls HX.out.2.2.1)
                  have KC : ∀ {b o : Nat} {u : Value}, wr.cell? ⟨b, o, none⟩ = some u → ∀ w', Below wr.heap.size wr w' → w'.cell? ⟨b, o, none⟩ = some u := fun h w' hb => (hb.cell (World.block_lt_of_cell? wr _ h)).trans h
                  have q0' := KC q0
                  have q4' := KC q4
                  have p0' := KC p0
                  have p1' := KC p1
                  have p2' := KC p2
                  have p3' := KC p3
                  have v0' := KC v0
                  have v1' := KC v1
                  have v2' := KC v2
                  have v3' := KC v3
                  have v4' := KC v4
                  have cx' := KC cx
                  have n3 : (0 : Int) ≤ (e : Int) := by omega
                  have n4 : (e : Int) < (days.length : Int) := by omega
                  have n5 : (0 : Int) ≤ (j : Int) := by omega
                  have n6 : (a : Int) ≤ (e : Int) := by omega
                  have HT := Lib.hid (And.intro hbL hful)
                  clear hbL hful hfs hj hst2 KC p0 p1 p2 p3 q0 q1 q2 q3 q4 v0 v1 v2 cx cl' hvw hb hB hsd by2
                  have hN : ∀ {w5 : World}, Below wr.heap.size wr w5 → Below X.heap.size X w5 := fun h => HB.out.2.trans (h.mono HB.out.2.size)
                  have hye : L.getD (z - n) false = true → saidN p L a z (n + 1) = saidN p L a z n := fun h => by rw [saidN, h, if_pos rfl]
                  have hno : L.getD (z - n) false = false → saidN p L a z (n + 1) = if e = a then 1 else if (e : Int) + gr < z then 2 else 0 := fun h => by rw [saidN, h, he, hgr]; rfl
                  have HN := Lib.hid (And.intro @hN (And.intro hye hno))
                  have HE := Lib.hid (And.intro he hdd)
                  clear hN hye hno he hdd
                  cases b
                  · go_upto_region 23 with fail
                    go_region_held3 (fun w' => Below wr.heap.size wr w') (first | exact (Below.refl _ _).drew | assumption)
                      ((go_at_call 99
                        refine (HT.out.2 _).mono ?_
                        rintro e w3 ⟨rfl, b3⟩
                        have B3 : Below wr.heap.size wr w3 := (Below.refl _ _).drew.trans b3
                        clear b3))
                    have u3 := v3' _ B3
                    have u4 := v4' _ B3
                    have u5 := q4' _ B3
                    clear q0' q4' p0' p1' p2' p3' v0' v1' v2' v3' v4' cx' v3 v4 x3 x4
                    by_cases hla : (e : Int) + gr < (z : Int)
                    · by_cases hae : e = a
                      · have hea' : ((e : Int) == (a : Int)) = true := by simp [hae]
                        go_wp2_with fail
                        go_roundw
                        case measure => simp [intOf]; omega
                        case rel => exact ⟨n + 1, (e : Int) - 1, 1, by omega, by have := HE.out.2; omega, by rw [hae], rfl, by rw [HN.out.2.2 HT.out.1, if_pos hae], HN.out.1 B3⟩
                      · have hea' : ((e : Int) == (a : Int)) = false := by simp; omega
                        go_wp2_with fail
                        go_roundw
                        case measure => simp [intOf]; omega
                        case rel => exact ⟨n + 1, (e : Int) - 1, 2, by omega, by have := HE.out.2; omega, rfl, rfl, by rw [HN.out.2.2 HT.out.1, if_neg hae, if_pos hla], HN.out.1 B3⟩
                    · by_cases hae : e = a
                      · have hea' : ((e : Int) == (a : Int)) = true := by simp [hae]
                        go_wp2_with fail
                        go_roundw
                        case measure => simp [intOf]; omega
                        case rel => exact ⟨n + 1, (e : Int) - 1, 1, by omega, by have := HE.out.2; omega, by rw [hae], rfl, by rw [HN.out.2.2 HT.out.1, if_pos hae], HN.out.1 B3⟩
                      · have hea' : ((e : Int) == (a : Int)) = false := by simp; omega
                        go_wp2_with fail
                        go_roundw
                        case measure => simp [intOf]; omega
                        case rel => exact ⟨n + 1, (e : Int) - 1, 0, by omega, by have := HE.out.2; omega, rfl, rfl, by rw [HN.out.2.2 HT.out.1, if_neg hae, if_neg hla], HN.out.1 B3⟩
                  · go_upto_region 23 with fail
                    go_region_held3 (fun w' => Below wr.heap.size wr w') (first | exact (Below.refl _ _).drew | assumption)
                      ((go_at_call 99
                        refine (HT.out.2 _).mono ?_
                        rintro e w3 ⟨rfl, b3⟩
                        have B3 : Below wr.heap.size wr w3 := (Below.refl _ _).drew.trans b3
                        clear b3))
                    clear q0' q4' p0' p1' p2' p3' v0' v1' v2' v3' v4' cx' v3 v4 x3 x4
                    go_wp2_with fail
                    go_roundw
                    case measure => simp [intOf]; omega
                    case rel => exact ⟨n + 1, (e : Int) - 1, sd, by omega, by have := HE.out.2; omega, rfl, rfl, by rw [HB.out.1, HN.out.2.1 HT.out.1], HN.out.1 B3⟩
                · obtain rfl : n = z + 1 - a := by omega
                  have hee : dd < (a : Int) := by omega
                  obtain ⟨v3, v4⟩ : wr.cell? ⟨xb, 3, none⟩ = some (.int .i64 a) ∧ wr.cell? ⟨xb, 4, none⟩ = some (.int .i64 z) := by
                    have hvw := (hB.block _ (heap_lt HY.out.1)).trans HY.out.1
                    exact ⟨(cell_of_heap hvw 3).trans rfl, (cell_of_heap hvw 4).trans rfl⟩
                  have hR := HX.out.1.below (HY.out.2.1.trans (hB.mono HY.out.2.1.size))
                  have hou : sd = outcome p days l[k] := by rw [hsd, HX.out.2.2.2.2, HX.out.2.1]
                  have HZ := Lib.hid (And.intro hR hou)
                  clear hR hou hB hsd
                  have hk4 : k ≤ 500 := by omega
                  go_wp2_with (at_builtin
                               refine wpList_append_A rfl (.tmp 116) (.tmp 118) 27 rfl i0 _ 8 Try.underlying27 hi hz0 hz1 hz2 rfl (A := Ao) (n := k) (c := co) (xs := ints ((l.map (outcome p days)).take k)) (fp := q) (by simp [Act.eval]) _ (by simp [Act.eval]) (.int .i64 sd) (HZ.out.1.own.alloc _) (cell_new_one _ _ _) rfl (by omega) (by omega) ?_
                               intro g' off' c' w5 h1 h2 h3 h4
                               have HQ := Lib.hid (HZ.out.1.app hlt HZ.out.2 h1 h2 h4)
                               clear h1 h2 h3 h4)
                  go_roundw
                  case measure => simp [intOf]; omega
                  case rel => exact ⟨k + 1, _, c', _, by omega, by go_num, rfl, HQ.out⟩
            · obtain rfl : k = l.length := by omega
              have HS := Lib.hid hst
              clear hst
              go_wp2_with fail
              go_ret2
              have hrs : reviewS p days l = l.map (outcome p days) := by unfold reviewS; rw [if_pos H2.out.2.2.2.1]
              refine ⟨Ao, co, by rw [hrs, H2.out.2.2.2.1, List.length_map]; rfl, ?_, H3.out.1.bel.trans (HS.out.keep.below H3.out.1.bel.size (by simp))⟩
              rw [hrs]
              have hown := HS.out.own
              rw [List.take_of_length_le (by simp)] at hown
              exact ⟨by have := hown.rd; rwa [List.length_map], by rw [List.length_map]; exact hown.ge, hown.cap⟩
  · have hne : (er != 0) = true := by simp [h0]
    have HK := Lib.hid h0
    clear h0
    go_wp2_with fail
    go_ret2
    exact ReviewPost.bad (by rw [review_start (by rw [← HR.out.2.2.1]; exact HK.out), HR.out.2.2.1]) HK.out H1.out.1.bel
end Go.Proofs.Ytfmhlnfcbbpfeaa
/- A region that appends one element to each of two lists, in any order: what it keeps. No program is named here. -/
namespace Go.Proofs.Ytfmhlnfcbbpfeaa
open Go Go.RowKit

/-- the two lists as they are, and the blocks of the elements that are to be appended -/
structure Gh2 where
  A1 : Option Addr
  n1 : Nat
  c1 : Nat
  xs1 : List Value
  f1 : List Nat
  b1 : Nat
  A2 : Option Addr
  n2 : Nat
  c2 : Nat
  xs2 : List Value
  f2 : List Nat
  b2 : Nat

/-- i1, i2: the operations that make the elements' blocks; j1, j2: those that append -/
structure GW2 (i1 j1 i2 j2 : Nat) (W0 : World) (e1 e2 : TypeId) (u1 u2 : Value) (A1 : Option Addr) (n1 c1 : Nat) (xs1 : List Value) (f1 : List Nat) (A2 : Option Addr) (n2 c2 : Nat) (xs2 : List Value) (f2 : List Nat) (s : Gh2) (l : Nat → Bool) (w : World) : Prop where
  o1 : OwnA w e1 s.A1 s.n1 s.c1 s.xs1 s.f1
  o2 : OwnA w e2 s.A2 s.n2 s.c2 s.xs2 s.f2
  dis : ∀ g ∈ s.f1, g ∉ s.f2
  kp : Keep (f1 ++ f2) W0 w
  in1 : ∀ g ∈ s.f1, g ∈ f1 ∨ W0.heap.size ≤ g
  in2 : ∀ g ∈ s.f2, g ∈ f2 ∨ W0.heap.size ≤ g
  a1 : l j1 = false → s.A1 = A1 ∧ s.n1 = n1 ∧ s.c1 = c1 ∧ s.xs1 = xs1
  z1 : l j1 = true → s.n1 = n1 + 1 ∧ s.xs1 = xs1 ++ [u1]
  a2 : l j2 = false → s.A2 = A2 ∧ s.n2 = n2 ∧ s.c2 = c2 ∧ s.xs2 = xs2
  z2 : l j2 = true → s.n2 = n2 + 1 ∧ s.xs2 = xs2 ++ [u2]
  t1 : l i1 = true → w.cell? ⟨s.b1, 0, none⟩ = some u1 ∧ s.b1 ∉ s.f1 ∧ s.b1 ∉ s.f2 ∧ s.b1 < w.heap.size
  t2 : l i2 = true → w.cell? ⟨s.b2, 0, none⟩ = some u2 ∧ s.b2 ∉ s.f1 ∧ s.b2 ∉ s.f2 ∧ s.b2 < w.heap.size

section
variable {i1 j1 i2 j2 : Nat} {W0 : World} {e1 e2 : TypeId} {u1 u2 : Value} {A1 : Option Addr} {n1 c1 : Nat} {xs1 : List Value} {f1 : List Nat} {A2 : Option Addr} {n2 c2 : Nat} {xs2 : List Value} {f2 : List Nat} {s : Gh2} {l : Nat → Bool} {w : World}
theorem GW2.start (o1 : OwnA W0 e1 A1 n1 c1 xs1 f1) (o2 : OwnA W0 e2 A2 n2 c2 xs2 f2) (hd : ∀ g ∈ f1, g ∉ f2) : GW2 i1 j1 i2 j2 W0 e1 e2 u1 u2 A1 n1 c1 xs1 f1 A2 n2 c2 xs2 f2 ⟨A1, n1, c1, xs1, f1, 0, A2, n2, c2, xs2, f2, 0⟩ (fun _ => false) W0.drew :=
  ⟨by simpa using o1.keepS ((Keep.refl [] W0).drew) (by simp), by simpa using o2.keepS ((Keep.refl [] W0).drew) (by simp), hd, (Keep.refl _ _).drew, fun g hg => .inl hg, fun g hg => .inl hg, fun _ => ⟨rfl, rfl, rfl, rfl⟩, (fun h => by cases h), fun _ => ⟨rfl, rfl, rfl, rfl⟩, (fun h => by cases h), (fun h => by cases h), (fun h => by cases h)⟩
/-- an operation that is none of the four -/
theorem GW2.other (h : GW2 i1 j1 i2 j2 W0 e1 e2 u1 u2 A1 n1 c1 xs1 f1 A2 n2 c2 xs2 f2 s l w) {i : Nat} (hi : i1 ≠ i ∧ j1 ≠ i ∧ i2 ≠ i ∧ j2 ≠ i) : GW2 i1 j1 i2 j2 W0 e1 e2 u1 u2 A1 n1 c1 xs1 f1 A2 n2 c2 xs2 f2 s (upd l i) w := by
  obtain ⟨h1, h2, h3, h4⟩ := hi
  exact ⟨h.o1, h.o2, h.dis, h.kp, h.in1, h.in2, by simpa [upd, h2] using h.a1, by simpa [upd, h2] using h.z1, by simpa [upd, h4] using h.a2, by simpa [upd, h4] using h.z2, by simpa [upd, h1] using h.t1, by simpa [upd, h3] using h.t2⟩
theorem cell_new_one' (w : World) (u : Value) (t : TypeId) : (w.alloc (.cells #[u] t)).cell? ⟨w.heap.size, 0, none⟩ = some u := cell_new_one w u t
theorem GW2.build1 (h : GW2 i1 j1 i2 j2 W0 e1 e2 u1 u2 A1 n1 c1 xs1 f1 A2 n2 c2 xs2 f2 s l w) (t : TypeId) (hi : j1 ≠ i1 ∧ i2 ≠ i1 ∧ j2 ≠ i1) :
    GW2 i1 j1 i2 j2 W0 e1 e2 u1 u2 A1 n1 c1 xs1 f1 A2 n2 c2 xs2 f2 { s with b1 := w.heap.size } (upd l i1) (w.alloc (.cells #[u1] t)) := by
  obtain ⟨h1, h2, h3⟩ := hi
  have hb : Below w.heap.size w (w.alloc (.cells #[u1] t)) := (Below.refl _ _).alloc (Nat.le_refl _) _
  refine ⟨h.o1.alloc _, h.o2.alloc _, h.dis, h.kp.alloc _, h.in1, h.in2, by simpa [upd, h1] using h.a1, by simpa [upd, h1] using h.z1, by simpa [upd, h3] using h.a2, by simpa [upd, h3] using h.z2, fun _ => ⟨cell_new_one _ _ _, ?_, ?_, by simp⟩, fun h5 => ?_⟩
  · intro hm; have := h.o1.lt _ hm; simp at this
  · intro hm; have := h.o2.lt _ hm; simp at this
  · obtain ⟨k1, k2, k3, k4⟩ := h.t2 (by simpa [upd, h2] using h5)
    exact ⟨(hb.cell (p := ⟨s.b2, 0, none⟩) k4).trans k1, k2, k3, by simp; omega⟩
theorem GW2.build2 (h : GW2 i1 j1 i2 j2 W0 e1 e2 u1 u2 A1 n1 c1 xs1 f1 A2 n2 c2 xs2 f2 s l w) (t : TypeId) (hi : j1 ≠ i2 ∧ i1 ≠ i2 ∧ j2 ≠ i2) :
    GW2 i1 j1 i2 j2 W0 e1 e2 u1 u2 A1 n1 c1 xs1 f1 A2 n2 c2 xs2 f2 { s with b2 := w.heap.size } (upd l i2) (w.alloc (.cells #[u2] t)) := by
  obtain ⟨h1, h2, h3⟩ := hi
  have hb : Below w.heap.size w (w.alloc (.cells #[u2] t)) := (Below.refl _ _).alloc (Nat.le_refl _) _
  refine ⟨h.o1.alloc _, h.o2.alloc _, h.dis, h.kp.alloc _, h.in1, h.in2, by simpa [upd, h1] using h.a1, by simpa [upd, h1] using h.z1, by simpa [upd, h3] using h.a2, by simpa [upd, h3] using h.z2, fun h5 => ?_, fun _ => ⟨cell_new_one _ _ _, ?_, ?_, by simp⟩⟩
  · obtain ⟨k1, k2, k3, k4⟩ := h.t1 (by simpa [upd, h2] using h5)
    exact ⟨(hb.cell (p := ⟨s.b1, 0, none⟩) k4).trans k1, k2, k3, by simp; omega⟩
  · intro hm; have := h.o1.lt _ hm; simp at this
  · intro hm; have := h.o2.lt _ hm; simp at this
theorem GW2.app1 (h : GW2 i1 j1 i2 j2 W0 e1 e2 u1 u2 A1 n1 c1 xs1 f1 A2 n2 c2 xs2 f2 s l w) (hl : l j1 = false) (hi : i1 ≠ j1 ∧ i2 ≠ j1 ∧ j2 ≠ j1) {g off c' : Nat} {w' : World}
    (ho : OwnA w' e1 (some ⟨g, off, none⟩) (n1 + 1) c' (xs1 ++ [u1]) [g]) (hg : g ∈ s.f1 ∨ w.heap.size = g) (hk : Keep s.f1 w w') :
    GW2 i1 j1 i2 j2 W0 e1 e2 u1 u2 A1 n1 c1 xs1 f1 A2 n2 c2 xs2 f2 { s with A1 := some ⟨g, off, none⟩, n1 := n1 + 1, c1 := c', xs1 := xs1 ++ [u1], f1 := [g] } (upd l j1) w' := by
  obtain ⟨h1, h2, h3⟩ := hi
  have hs := h.kp.size
  have hin : g ∈ f1 ∨ W0.heap.size ≤ g := by
    rcases hg with hg | hg
    · exact h.in1 g hg
    · exact .inr (by omega)
  have hd2 : ∀ x ∈ s.f2, x ∉ s.f1 := fun x hx hm => h.dis x hm hx
  refine ⟨ho, h.o2.keepS hk hd2, ?_, h.kp.trans hk (fun x hx => ?_), ?_, h.in2, fun h5 => by simp [upd] at h5, fun _ => ⟨rfl, rfl⟩, by simpa [upd, h3] using h.a2, by simpa [upd, h3] using h.z2, fun h5 => ?_, fun h5 => ?_⟩
  · intro x hx hm
    rw [List.mem_singleton.1 hx] at hm
    rcases hg with hg | hg
    · exact h.dis g hg hm
    · have := h.o2.lt _ hm; omega
  · rcases h.in1 x hx with h5 | h5
    · exact .inl (List.mem_append.2 (.inl h5))
    · exact .inr h5
  · intro x hx; rw [List.mem_singleton.1 hx]; exact hin
  · obtain ⟨k1, k2, k3, k4⟩ := h.t1 (by simpa [upd, h1] using h5)
    refine ⟨hk.cell k1 k2, ?_, k3, Nat.lt_of_lt_of_le k4 hk.size⟩
    intro hm
    have e : s.b1 = g := List.mem_singleton.1 hm
    rcases hg with hg | hg
    · exact k2 (by rw [e]; exact hg)
    · omega
  · obtain ⟨k1, k2, k3, k4⟩ := h.t2 (by simpa [upd, h2] using h5)
    refine ⟨hk.cell k1 k2, ?_, k3, Nat.lt_of_lt_of_le k4 hk.size⟩
    intro hm
    have e : s.b2 = g := List.mem_singleton.1 hm
    rcases hg with hg | hg
    · exact k2 (by rw [e]; exact hg)
    · omega
theorem GW2.app2 (h : GW2 i1 j1 i2 j2 W0 e1 e2 u1 u2 A1 n1 c1 xs1 f1 A2 n2 c2 xs2 f2 s l w) (hl : l j2 = false) (hi : i1 ≠ j2 ∧ i2 ≠ j2 ∧ j1 ≠ j2) {g off c' : Nat} {w' : World}
    (ho : OwnA w' e2 (some ⟨g, off, none⟩) (n2 + 1) c' (xs2 ++ [u2]) [g]) (hg : g ∈ s.f2 ∨ w.heap.size = g) (hk : Keep s.f2 w w') :
    GW2 i1 j1 i2 j2 W0 e1 e2 u1 u2 A1 n1 c1 xs1 f1 A2 n2 c2 xs2 f2 { s with A2 := some ⟨g, off, none⟩, n2 := n2 + 1, c2 := c', xs2 := xs2 ++ [u2], f2 := [g] } (upd l j2) w' := by
  obtain ⟨h1, h2, h3⟩ := hi
  have hs := h.kp.size
  have hin : g ∈ f2 ∨ W0.heap.size ≤ g := by
    rcases hg with hg | hg
    · exact h.in2 g hg
    · exact .inr (by omega)
  refine ⟨h.o1.keepS hk h.dis, ho, ?_, h.kp.trans hk (fun x hx => ?_), h.in1, ?_, by simpa [upd, h3] using h.a1, by simpa [upd, h3] using h.z1, fun h5 => by simp [upd] at h5, fun _ => ⟨rfl, rfl⟩, fun h5 => ?_, fun h5 => ?_⟩
  · intro x hx hm
    have e : x = g := List.mem_singleton.1 hm
    rcases hg with hg | hg
    · exact h.dis x hx (by rw [e]; exact hg)
    · have := h.o1.lt _ hx; omega
  · rcases h.in2 x hx with h5 | h5
    · exact .inl (List.mem_append.2 (.inr h5))
    · exact .inr h5
  · intro x hx; rw [List.mem_singleton.1 hx]; exact hin
  · obtain ⟨k1, k2, k3, k4⟩ := h.t1 (by simpa [upd, h1] using h5)
    refine ⟨hk.cell k1 k3, k2, ?_, Nat.lt_of_lt_of_le k4 hk.size⟩
    intro hm
    have e : s.b1 = g := List.mem_singleton.1 hm
    rcases hg with hg | hg
    · exact k3 (by rw [e]; exact hg)
    · omega
  · obtain ⟨k1, k2, k3, k4⟩ := h.t2 (by simpa [upd, h2] using h5)
    refine ⟨hk.cell k1 k3, k2, ?_, Nat.lt_of_lt_of_le k4 hk.size⟩
    intro hm
    have e : s.b2 = g := List.mem_singleton.1 hm
    rcases hg with hg | hg
    · exact k3 (by rw [e]; exact hg)
    · omega
end
end Go.Proofs.Ytfmhlnfcbbpfeaa
