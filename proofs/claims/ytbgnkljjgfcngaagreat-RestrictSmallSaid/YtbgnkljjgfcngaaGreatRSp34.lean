/- polynyalaw08.RestrictBounds (printed by wip/tools/bnd.py) -/
import Derived.Test.YtbgnkljjgfcngaaGreatRSp33
import Derived.Deep.RegionHeld3
import Derived.Deep.DeepCutAuto
import Derived.Deep.CutRange
set_option linter.unusedVariables false
set_option linter.unusedSimpArgs false
namespace Go.Proofs.YtbgnkljjgfcngaaGreat
open Go Go.RowKit Sp
set_option linter.unusedSimpArgs false
set_option linter.unusedVariables false

def BnV (As : Option Addr) (cs : Nat) (p : Pol) (s : RgS) : Nat → Value → Prop
  | 0, v => v = .agg #[.slice As p.steps.length cs, .int .i64 p.hold, .int .i64 p.calm, .int .i64 p.notice, .int .i64 p.grace]
  | 1, v => v = .agg #[.slice As p.steps.length cs, .int .i64 p.hold, .int .i64 p.calm, .int .i64 p.notice, .int .i64 p.grace]
  | 2, v => v = .agg #[.slice s.Ap p.steps.length s.cp, .int .i64 p.hold, .int .i64 p.calm, .int .i64 p.notice, .int .i64 p.grace]
  | 3, v => v = .pointer (some ⟨s.b13, 0, none⟩)
  | 4, v => v = .pointer (some ⟨s.b14, 0, none⟩)
  | _, _ => True
theorem span_eql_self (i j : Int) (w : World) : (binOp .eql 33 (.agg #[.int .i64 i, .int .i64 j]) (.agg #[.int .i64 i, .int .i64 j])).run Tryz.prog w = .ok (.bool true) w := by
  have u3 := Tryz.underlying3
  have a3 := Tryz.isAgg3
  have z3 := Tryz.sizeOf3
  have hS : Tryz.prog.underlying 33 = some (.struct (Tryz.prog.fieldsOf 33)) := by kernel_rfl
  have hp : Tryz.prog.stoodInHeld 33 = false := by kernel_rfl
  rw [run_eql_struct, show (10000 : Nat) = 9999 + 1 from rfl, run_equalIn_agg w 9999 33 _ _ hS hp]
  simp only [Program.fieldsOf, Tryz.underlying33]
  go_simp

set_option linter.unusedVariables false
def BaV (W0 : World) (ob xb : Nat) (x : Cel) (lo hi g z : Int) : Nat → Value → Prop
  | 0, v => v = .pointer (some ⟨ob, 0, none⟩)
  | 1, v => v = .int .i64 lo
  | 2, v => v = .pointer (some ⟨xb, 0, none⟩)
  | 3, v => v = .pointer (some ⟨xb, 0, none⟩)
  | 4, v => v = .int .i64 x.a0
  | 5, v => v = .pointer (some ⟨xb, 2, none⟩)
  | 6, v => v = .pointer (some ⟨xb, 2, none⟩)
  | 7, v => v = .int .i64 x.b0
  | 8, v => v = .pointer (some ⟨xb, 4, none⟩)
  | 9, v => v = .pointer (some ⟨xb, 4, none⟩)
  | 10, v => v = .int .i64 x.c0
  | 11, v => v = .pointer (some ⟨xb, 6, none⟩)
  | 12, v => v = .pointer (some ⟨xb, 6, none⟩)
  | 13, v => v = .int .i64 x.d0
  | 14, v => v = .int .i64 g
  | 15, v => v = .int .i64 z
  | 16, v => v = .pointer (some ⟨ob, 0, none⟩)
  | _, _ => True
def BaW (W0 : World) (ob xb : Nat) (x : Cel) (lo hi g z : Int) (l : Nat → Bool) (w : World) : Prop := Keep [ob] W0 w ∧ w.heap[ob]? = some (.cells (if l 17 then #[.int .i64 z, .int .i64 hi] else #[.int .i64 lo, .int .i64 hi]) 33 (0, 0))
set_option linter.unusedVariables false
def BbV (W0 : World) (ob xb : Nat) (x : Cel) (lo hi g z : Int) : Nat → Value → Prop
  | 0, v => v = .pointer (some ⟨ob, 1, none⟩)
  | 1, v => v = .int .i64 hi
  | 2, v => v = .pointer (some ⟨xb, 0, none⟩)
  | 3, v => v = .pointer (some ⟨xb, 1, none⟩)
  | 4, v => v = .int .i64 x.a1
  | 5, v => v = .pointer (some ⟨xb, 2, none⟩)
  | 6, v => v = .pointer (some ⟨xb, 3, none⟩)
  | 7, v => v = .int .i64 x.b1
  | 8, v => v = .pointer (some ⟨xb, 4, none⟩)
  | 9, v => v = .pointer (some ⟨xb, 5, none⟩)
  | 10, v => v = .int .i64 x.c1
  | 11, v => v = .pointer (some ⟨xb, 6, none⟩)
  | 12, v => v = .pointer (some ⟨xb, 7, none⟩)
  | 13, v => v = .int .i64 x.d1
  | 14, v => v = .int .i64 g
  | 15, v => v = .int .i64 z
  | 16, v => v = .pointer (some ⟨ob, 1, none⟩)
  | _, _ => True
def BbW (W0 : World) (ob xb : Nat) (x : Cel) (lo hi g z : Int) (l : Nat → Bool) (w : World) : Prop := Keep [ob] W0 w ∧ w.heap[ob]? = some (.cells (if l 17 then #[.int .i64 lo, .int .i64 z] else #[.int .i64 lo, .int .i64 hi]) 33 (0, 0))
set_option maxRecDepth 100000 in
set_option maxHeartbeats 4000000 in
theorem bounds_t3 {Q0 : Exit → Act → World → Prop} {w w18 w19 : World} {b13 b14 vb ib cb : Nat} {p : Pol} {v : Ves} {day : Int} {x : Ice} {a b c : Int} {l : List (Int × Int)} {cl : List Cel} {ns : List Int} {Ac : Option Addr} {cc : Nat} {Ap : Option Addr} {cp : Nat} {Ao : Option Addr} {co : Nat} {A : Option Addr} {ca : Nat} {Ak : Option Addr} {ck : Nat} {An : Option Addr} {cn : Nat} {Acl : Option Addr} {ccl : Nat} {LB : List (Int × Int)} {bE : Int} {sB pB : Bool} {sE gN iE dE d1 d2 cE : Int} {eb sb wb cq : Nat} {Aq : Option Addr} {B0 : Bool} {f0 : Int} (hl2 : l.length ≤ 420) (hcl : cl.length ≤ 100) (hns : ns.length ≤ 20) (he : w18.heap[eb]? = some (.cells #[.int .i64 a, .int .i64 b, .int .i64 c, .slice Aq cl.length cq] 49 (0, 0))) (hq : Rd w18 8 Aq cl.length (cels cl)) (hs : w18.heap[sb]? = some (.cells #[.int .i64 d1, .int .i64 d2] 33 (0, 0))) (hw : w19.heap[wb]? = some (.cells #[.int .i64 0, .int .i64 0] 33 (0, 0))) (hwb : wb = w18.heap.size) (h89 : Below w18.heap.size w18 w19) (hB0 : B0 = (decide (cE = 0) && decide (ns.length = 0))) (hf0 : f0 = if B0 then 1 else cE) (hS : BQ w w18 b13 b14 vb ib cb p v x a b c l cl ns Ac cc Ap cp Ao A Ak An Acl ccl) (hC : BC w b13 b14 vb ib cb p v day x a b c l cl ns Ac cc Ap cp Ao co A ca Ak ck An cn Acl ccl LB bE sB pB sE gN iE dE d1 d2 cE) {s0 s2 s3 s4 s5 s7 s8 s9 s10 s11 s13 s19 s21 s23 s24 s25 s26 s27 s28 s32 s33 s34 s35 s36 s37 s38 s39 s40 s41 s42 s43 s44 s45 s46 s47 s48 s49 s50 s51 s52 s53 s54 s55 s56 s57 s58 s59 s60 s61 s62 s63 s64 s65 s66 s67 s68 s69 s70 s71 s72 s73 s74 s75 s76 s77 s78 s79 s80 s81 s82 s83 s84 s85 s86 s87 s88 s89 s90 s91 s92 s93 s94 s95 s96 s97 s98 s99 s100 s101 s102 s103 s104 s105 s106 s107 s108 s109 s110 s111 s112 s113 s114 s115 s116 s117 s118 s119 s120 s121 s122 s123 s124 s125 s126 s127 s128 s129 s130 s131 s132 s133 s134 s135 s136 s137 s138 s139 s140 s141 s142 s143 s144 s145 s146 s147 s148 s149 s150 s151 s152 s153 s154 s155 s156 s157 s158 s159 s160 s161 s162 s163 s164 s165 s166 s167 s168 s169 s170 s171 s172 s173 s174 s175 s176 s177 s178 s179 s180 s181 s182 s183 s184 s185 s186 s187 s188 s189 s190 s191 s192 s193 s194 s195 s196 s197 s198 s199 s200 s201 s202 s203 s204 s205 s206 s207 s208 s209 s210 s211 s212 s213 s214 s215 s216 s217 s218 s219 s220 s221 s222 s223 s224 s225 s226 s227 s228 s229 s230 s231 s232 s233 s234 s235 s236 s237 s238 s239 s240 s241 s242 s243 s244 s245 s246 s247 s248 s249 s250 s251 s252 s253 s254 s255 s256 s257 s258 s259 s260 s261 s262 : Value} (hQ0 : ∀ e1 a1 w1, bodyPost Tryz.prog Tryz.f9 (fun e w' => e = .returned (.bool true) ∧ Below w.heap.size w w') e1 a1 w1 → Q0 e1 a1 w1) :
    Code.wp Tryz.prog (restOf Tryz.f9 24) Q0 ⟨#[s0, .slice A l.length ca, s2, s3, s4, s5, .slice An ns.length cn, s7, s8, s9, s10, s11, .pointer (some ⟨cb, 0, none⟩), s13, .bool false, .pointer (some ⟨b13, 0, none⟩), .pointer (some ⟨b14, 0, none⟩), .slice Ao l.length co, .slice Ak ns.length ck, s19, .int .i64 dE, s21, .int .i64 f0, s23, s24, s25, s26, s27, s28, .pointer (some ⟨eb, 0, none⟩), .pointer (some ⟨sb, 0, none⟩), .pointer (some ⟨wb, 0, none⟩), s32, s33, s34, s35, s36, s37, s38, s39, s40, s41, s42, s43, s44, s45, s46, s47, s48, s49, s50, s51, s52, s53, s54, s55, s56, s57, s58, s59, s60, s61, s62, s63, s64, s65, s66, s67, s68, s69, s70, s71, s72, s73, s74, s75, s76, s77, s78, s79, s80, s81, s82, s83, s84, s85, s86, s87, s88, s89, s90, s91, s92, s93, s94, s95, s96, s97, s98, s99, s100, s101, s102, s103, s104, s105, s106, s107, s108, s109, s110, s111, s112, s113, s114, s115, s116, s117, s118, s119, s120, s121, s122, s123, s124, s125, s126, s127, s128, s129, s130, s131, s132, s133, s134, s135, s136, s137, s138, s139, s140, s141, s142, s143, s144, s145, s146, s147, s148, s149, s150, s151, s152, s153, s154, s155, s156, s157, s158, s159, s160, s161, s162, s163, s164, s165, s166, s167, s168, s169, s170, s171, s172, s173, s174, s175, s176, s177, s178, s179, s180, s181, s182, s183, s184, s185, s186, s187, s188, s189, s190, s191, s192, s193, s194, s195, s196, s197, s198, s199, s200, s201, s202, s203, s204, s205, s206, s207, s208, s209, s210, s211, s212, s213, s214, s215, s216, s217, s218, s219, s220, s221, s222, s223, s224, s225, s226, s227, s228, s229, s230, s231, s232, s233, s234, s235, s236, s237, s238, s239, s240, s241, s242, s243, s244, s245, s246, s247, s248, s249, s250, s251, s252, s253, s254, s255, s256, s257, s258, s259, s260, s261, s262], []⟩ w19 := by
  refine wp_mono ?_ hQ0
  clear hQ0
  conv => arg 2; whnf
  have HE := Lib.hid (And.intro he (And.intro hq hs))
  have HW := Lib.hid (And.intro hw (And.intro hwb h89))
  have S18 := Lib.hid hS
  have C := Lib.hid hC
  have hA : f0 = 0 → cE = 0 ∧ ns.length ≠ 0 := fun h => by
    rw [hf0] at h
    cases B0
    · refine ⟨by simpa using h, fun hn => ?_⟩
      have hc : cE = 0 := by simpa using h
      rw [hc, hn] at hB0
      simp at hB0
    · simp at h
  have hB : f0 ≠ 0 → dE = f0 := fun h => by
    have e1 := hC.cE_
    have e2 := hC.dE_
    rw [e2, hf0]
    unfold distE
    rw [← e1]
    cases B0
    · have hc : cE ≠ 0 := fun hc => h (by rw [hf0, hc]; rfl)
      rw [if_pos hc]; rfl
    · have h1 : cE = 0 ∧ ns.length = 0 := by simpa using hB0.symm
      rw [if_neg (fun hh => hh h1.1), if_pos (.inl h1.2)]; rfl
  have HAB := Lib.hid (And.intro hA hB)
  have hsz : w18.heap.size ≤ w19.heap.size := h89.size
  have hwb1 : w18.heap.size ≤ wb := by omega
  clear he hq hs hw hwb h89 hS hC hA hB hB0 hf0
  go_upto_block 0 with fail
  go_cut [22, 33, 34] (fun f _ _ wx => f = .int .i64 dE ∧ Keep [wb] w19 wx ∧ ∃ lo hi : Int, wx.heap[wb]? = some (.cells #[.int .i64 lo, .int .i64 hi] 33 (0, 0)) ∧ (dE = 0 → lo = d1 ∧ hi = d2))
  case first =>
    by_cases hf : f0 = 0
    · subst hf
      obtain ⟨hc0, hn0⟩ := HAB.out.1 rfl
      have hcok : ∀ y ∈ cl, celOk y = true := chart_ok (by rw [← C.out.cE_]; exact hc0)
      have HN := Lib.hid (And.intro hc0 (And.intro hn0 hcok))
      clear hc0 hn0 hcok
      go_wp2_with fail
      go_loopg [22, 172] (ns.length) (fun g f i wr => ∃ (k : Nat) (lo hi : Int), g + k = ns.length ∧ f = .int .i64 0 ∧ i = .int .i64 k ∧ outN cl.length ns k = false ∧ DiSt w19 wr wb cl (ns.take k) lo hi)
      case atStart => exact ⟨0, 0, 0, by omega, rfl, rfl, by simp [outN, outL], ⟨Keep.refl _ _, HW.out.1, rfl, rfl⟩⟩
      case round =>
        obtain ⟨k, lo, hi, hk, rfl, rfl, ho, hS⟩ := hrel
        have HS := Lib.hid hS
        have HO1 := Lib.hid ho
        clear hS ho
        have KC : ∀ {b o : Nat} {u : Value}, w18.cell? ⟨b, o, none⟩ = some u → b < w18.heap.size → wr.cell? ⟨b, o, none⟩ = some u := fun h hb => HS.out.kp.cell ((HW.out.2.2.cell hb).trans h) (by simp; omega)
        by_cases hlt : k < ns.length
        · obtain ⟨bn, on, rfl, hbn, hcn⟩ := S18.out.rn.2 (by omega)
          obtain ⟨n, hn⟩ : ∃ n, n = ns[k] := ⟨_, rfl⟩
          have hgd : ns.getD k 0 = n := by rw [hn, List.getD_eq_getElem?_getD, List.getElem?_eq_getElem hlt]; rfl
          have j0 : wr.cell? ⟨bn, on + k, none⟩ = some (.int .i64 n) := KC (hcn k _ (by rw [← hgd]; exact ints_get hlt)) hbn
          have c3 : wr.cell? ⟨cb, 3, none⟩ = _ := KC ((cell_of_heap S18.out.hc 3).trans rfl) (heap_lt S18.out.hc)
          have zcb : cb < wr.heap.size := World.block_lt_of_cell? _ _ c3
          have n3 : (k : Int) < (ns.length : Int) := by omega
          have hos := outN_succ (n := cl.length) hlt
          rw [HO1.out, hgd] at hos
          have HX0 := Lib.hid (And.intro hn hos)
          clear hn hgd hcn hos
          by_cases hr : 0 ≤ n ∧ n < cl.length
          · obtain ⟨hr0, hr1⟩ := hr
            obtain ⟨m, rfl⟩ := Int.eq_ofNat_of_zero_le hr0
            have hml : m < cl.length := by omega
            obtain ⟨bl, ol, rfl, hbl, hcl'⟩ := S18.out.rc.2 (by omega)
            obtain ⟨y, hy⟩ : ∃ y, y = cl[m] := ⟨_, rfl⟩
            obtain ⟨s0, s1, s2, s3, s4, s5, s6, s7⟩ := cels_get hml
            rw [← hy] at s0 s1 s2 s3 s4 s5 s6 s7
            have t0 := KC (hcl' _ _ s0) hbl
            have t1 : wr.cell? ⟨bl, ol + m*8 + 1, none⟩ = _ := KC (hcl' _ _ s1) hbl
            have t2 : wr.cell? ⟨bl, ol + m*8 + 2, none⟩ = _ := KC (hcl' _ _ s2) hbl
            have t3 : wr.cell? ⟨bl, ol + m*8 + 3, none⟩ = _ := KC (hcl' _ _ s3) hbl
            have t4 : wr.cell? ⟨bl, ol + m*8 + 4, none⟩ = _ := KC (hcl' _ _ s4) hbl
            have t5 : wr.cell? ⟨bl, ol + m*8 + 5, none⟩ = _ := KC (hcl' _ _ s5) hbl
            have t6 : wr.cell? ⟨bl, ol + m*8 + 6, none⟩ = _ := KC (hcl' _ _ s6) hbl
            have t7 : wr.cell? ⟨bl, ol + m*8 + 7, none⟩ = _ := KC (hcl' _ _ s7) hbl
            have n1 : ¬ (m : Int) < 0 := by omega
            have n2 : ¬ (cl.length : Int) ≤ (m : Int) := by omega
            have n4 : (0 : Int) ≤ (m : Int) := by omega
            have n5 : ¬ cl.length ≤ m := by omega
            have hyok := HN.out.2.2 y (by rw [hy]; exact List.getElem_mem hml)
            obtain ⟨g1, hg1⟩ : ∃ g, g = gradeS (celLo y) := ⟨_, rfl⟩
            obtain ⟨g2, hg2⟩ : ∃ g, g = gradeS (celHi y) := ⟨_, rfl⟩
            have kg1 : ∀ wx, Calls Tryz.prog 59 #[.int .i64 y.a0, .int .i64 y.b0, .int .i64 y.c0, .int .i64 y.d0] wx fun e w' => e = .returned (.int .i64 g1) ∧ wx = w' := fun wx => (rGrade_any (celLo y) wx (cel_lo hyok)).mono fun e W' ⟨h1, h2⟩ => ⟨by rw [hg1]; exact h1, h2.symm⟩
            have kg2 : ∀ wx, Calls Tryz.prog 59 #[.int .i64 y.a1, .int .i64 y.b1, .int .i64 y.c1, .int .i64 y.d1] wx fun e w' => e = .returned (.int .i64 g2) ∧ wx = w' := fun wx => (rGrade_any (celHi y) wx (cel_hi hyok)).mono fun e W' ⟨h1, h2⟩ => ⟨by rw [hg2]; exact h1, h2.symm⟩
            obtain ⟨z1, hz1⟩ : ∃ z, (if lo < g1 then g1 else lo) = z := ⟨_, rfl⟩
            obtain ⟨z2, hz2⟩ : ∃ z, (if hi < g2 then g2 else hi) = z := ⟨_, rfl⟩
            have HGLo := Lib.hid (And.intro kg1 hg1)
            have HGHi := Lib.hid (And.intro kg2 hg2)
            have HZLo := Lib.hid hz1
            have HZHi := Lib.hid hz2
            have HXX := Lib.hid hy
            clear kg1 hg1 kg2 hg2 hz1 hz2 hyok KC s0 s1 s2 s3 s4 s5 s6 s7 hcl' hy
            obtain ⟨WR, hWR⟩ : ∃ WR, WR = wr.alloc (.cells (celA y) 54) := ⟨_, rfl⟩
            obtain ⟨xb, hxb⟩ : ∃ xb, xb = wr.heap.size := ⟨_, rfl⟩
            have hxh : WR.heap[xb]? = some (.cells (celA y) 54 (0, 0)) := by rw [hWR, hxb]; exact heap_alloc_new _ _
            have hobl : wb < wr.heap.size := heap_lt HS.out.hh
            have hxo : xb ≠ wb := by omega
            have KW : Keep [wb] w19 WR := by rw [hWR]; exact HS.out.kp.alloc _
            have hoW : WR.heap[wb]? = some (.cells #[.int .i64 lo, .int .i64 hi] 33 (0, 0)) := by rw [hWR]; exact heap_alloc' HS.out.hh _
            have HX := Lib.hid (And.intro hxo (show ∀ (j : Nat) v, (celA y)[j]? = some v → WR.cell? ⟨xb, j, none⟩ = some v from fun j v hv => (cell_of_heap hxh j).trans hv))
            have HKW := Lib.hid (And.intro KW hxh)
            have HO := Lib.hid hoW
            clear hxh hxo KW hoW
            go_upto_region 31 with fail
            rw [← hWR, ← hxb]
            clear hWR hxb j0 t0 t1 t2 t3 t4 t5 t6 t7 c3 zcb
            refine wp_region_steps (σ := Unit) (by kernel_rfl) (by kernel_rfl) (fun _ jx vx _ => BaV WR wb xb y lo hi g1 z1 jx vx) (fun _ ly wx => BaW WR wb xb y lo hi g1 z1 ly wx) () ?_ ?_ ?_
            · exact ⟨(Keep.refl _ _).drew, by rw [if_neg (by simp)]; exact HO.out⟩
            · simp only [AllFrom, Nat.zero_add, Nat.reduceAdd]
              refine ⟨?_, ?_, ?_, ?_, ?_, ?_, ?_, ?_, ?_, ?_, ?_, ?_, ?_, ?_, ?_, ?_, ?_, ?_, trivial⟩
              · refine step_pure fun sg ly a wr hl hd hW hF => ?_
                have et31 := hF.old 31 (by kernel_rfl)
                simp [Act.eval] at et31
                exact ⟨by simpa [BaW, upd] using hW, .pointer (some ⟨wb, 0, none⟩), by go_simp, rfl⟩
              · refine step_pure fun sg ly a wr hl hd hW hF => ?_
                simp [Region.binds] at hd
                have et192 := hF.new 0 192 (by simp [hd]) rfl
                simp [BaV, Act.eval] at et192
                have n18_15 := hF.notYet 1 15 hl (by kernel_rfl)
                have n18 := hF.notYet 15 17 n18_15 (by kernel_rfl)
                have hh := hW.2
                rw [if_neg (by simp [n18])] at hh
                have c0 := (cell_of_heap hh 0).trans rfl
                exact ⟨by simpa [BaW, upd] using hW, _, by go_simp, rfl⟩
              · refine step_pure fun sg ly a wr hl hd hW hF => ?_
                have et34 := hF.old 34 (by kernel_rfl)
                simp [Act.eval] at et34
                exact ⟨by simpa [BaW, upd] using hW, .pointer (some ⟨xb, 0, none⟩), by go_simp, rfl⟩
              · refine step_pure fun sg ly a wr hl hd hW hF => ?_
                simp [Region.binds] at hd
                have et194 := hF.new 2 194 (by simp [hd]) rfl
                simp [BaV, Act.eval] at et194
                exact ⟨by simpa [BaW, upd] using hW, .pointer (some ⟨xb, 0, none⟩), by go_simp, rfl⟩
              · refine step_pure fun sg ly a wr hl hd hW hF => ?_
                simp [Region.binds] at hd
                have et195 := hF.new 3 195 (by simp [hd]) rfl
                simp [BaV, Act.eval] at et195
                have c0 := hW.1.cell (HX.out.2 0 _ rfl) (by simpa using HX.out.1)
                exact ⟨by simpa [BaW, upd] using hW, .int .i64 y.a0, by go_simp, rfl⟩
              · refine step_pure fun sg ly a wr hl hd hW hF => ?_
                have et34 := hF.old 34 (by kernel_rfl)
                simp [Act.eval] at et34
                exact ⟨by simpa [BaW, upd] using hW, .pointer (some ⟨xb, 2, none⟩), by go_simp, rfl⟩
              · refine step_pure fun sg ly a wr hl hd hW hF => ?_
                simp [Region.binds] at hd
                have et197 := hF.new 5 197 (by simp [hd]) rfl
                simp [BaV, Act.eval] at et197
                exact ⟨by simpa [BaW, upd] using hW, .pointer (some ⟨xb, 2, none⟩), by go_simp, rfl⟩
              · refine step_pure fun sg ly a wr hl hd hW hF => ?_
                simp [Region.binds] at hd
                have et198 := hF.new 6 198 (by simp [hd]) rfl
                simp [BaV, Act.eval] at et198
                have c0 := hW.1.cell (HX.out.2 2 _ rfl) (by simpa using HX.out.1)
                exact ⟨by simpa [BaW, upd] using hW, .int .i64 y.b0, by go_simp, rfl⟩
              · refine step_pure fun sg ly a wr hl hd hW hF => ?_
                have et34 := hF.old 34 (by kernel_rfl)
                simp [Act.eval] at et34
                exact ⟨by simpa [BaW, upd] using hW, .pointer (some ⟨xb, 4, none⟩), by go_simp, rfl⟩
              · refine step_pure fun sg ly a wr hl hd hW hF => ?_
                simp [Region.binds] at hd
                have et200 := hF.new 8 200 (by simp [hd]) rfl
                simp [BaV, Act.eval] at et200
                exact ⟨by simpa [BaW, upd] using hW, .pointer (some ⟨xb, 4, none⟩), by go_simp, rfl⟩
              · refine step_pure fun sg ly a wr hl hd hW hF => ?_
                simp [Region.binds] at hd
                have et201 := hF.new 9 201 (by simp [hd]) rfl
                simp [BaV, Act.eval] at et201
                have c0 := hW.1.cell (HX.out.2 4 _ rfl) (by simpa using HX.out.1)
                exact ⟨by simpa [BaW, upd] using hW, .int .i64 y.c0, by go_simp, rfl⟩
              · refine step_pure fun sg ly a wr hl hd hW hF => ?_
                have et34 := hF.old 34 (by kernel_rfl)
                simp [Act.eval] at et34
                exact ⟨by simpa [BaW, upd] using hW, .pointer (some ⟨xb, 6, none⟩), by go_simp, rfl⟩
              · refine step_pure fun sg ly a wr hl hd hW hF => ?_
                simp [Region.binds] at hd
                have et203 := hF.new 11 203 (by simp [hd]) rfl
                simp [BaV, Act.eval] at et203
                exact ⟨by simpa [BaW, upd] using hW, .pointer (some ⟨xb, 6, none⟩), by go_simp, rfl⟩
              · refine step_pure fun sg ly a wr hl hd hW hF => ?_
                simp [Region.binds] at hd
                have et204 := hF.new 12 204 (by simp [hd]) rfl
                simp [BaV, Act.eval] at et204
                have c0 := hW.1.cell (HX.out.2 6 _ rfl) (by simpa using HX.out.1)
                exact ⟨by simpa [BaW, upd] using hW, .int .i64 y.d0, by go_simp, rfl⟩
              · refine step_call fun sg ly a wr hl hd hW hF => ?_
                simp [Region.binds] at hd
                have et196 := hF.new 4 196 (by simp [hd]) rfl
                simp [BaV, Act.eval] at et196
                have et199 := hF.new 7 199 (by simp [hd]) rfl
                simp [BaV, Act.eval] at et199
                have et202 := hF.new 10 202 (by simp [hd]) rfl
                simp [BaV, Act.eval] at et202
                have et205 := hF.new 13 205 (by simp [hd]) rfl
                simp [BaV, Act.eval] at et205
                refine ⟨59, #[.int .i64 y.a0, .int .i64 y.b0, .int .i64 y.c0, .int .i64 y.d0], by go_simp, ?_⟩
                refine (HGLo.out.1 wr).mono ?_
                rintro e w2 ⟨rfl, rfl⟩
                exact ⟨_, (), rfl, ⟨hW.1, by simpa [upd] using hW.2⟩, rfl, fun _ _ _ h => h⟩
              · refine step_pure fun sg ly a wr hl hd hW hF => ?_
                simp [Region.binds] at hd
                have et193 := hF.new 1 193 (by simp [hd]) rfl
                simp [BaV, Act.eval] at et193
                have et206 := hF.new 14 206 (by simp [hd]) rfl
                simp [BaV, Act.eval] at et206
                have hz := HZLo.out
                exact ⟨by simpa [BaW, upd] using hW, .int .i64 z1, by go_simp, rfl⟩
              · refine step_pure fun sg ly a wr hl hd hW hF => ?_
                have et31 := hF.old 31 (by kernel_rfl)
                simp [Act.eval] at et31
                exact ⟨by simpa [BaW, upd] using hW, .pointer (some ⟨wb, 0, none⟩), by go_simp, rfl⟩
              · refine step_store rfl fun sg ly a wr hl hd hW hF => ?_
                simp [Region.binds] at hd
                have et208 := hF.new 16 208 (by simp [hd]) rfl
                simp [BaV, Act.eval] at et208
                have et207 := hF.new 15 207 (by simp [hd]) rfl
                simp [BaV, Act.eval] at et207
                have hh := hW.2
                rw [if_neg (by simp [hl])] at hh
                have c0 := (cell_of_heap hh 0).trans rfl
                have f0 := frozen_of_heap hh 0
                refine ⟨wr.setCell ⟨wb, 0, none⟩ (.int .i64 z1), (), .skip, by go_simp, .inl rfl, ⟨hW.1.setCell (.inl (by simp)) _, ?_⟩, fun _ _ _ h => h⟩
                rw [if_pos (by simp [upd])]; exact heap_set hh 0 _
            intro _ a w5 hW hF
            obtain ⟨f, hf, rfl⟩ := hF.lit
            obtain ⟨kp5, hh5⟩ := hW
            simp only [List.length_cons, List.length_nil, Nat.reduceAdd, Nat.reduceLT, decide_true, if_true] at hh5
            have HX5 := Lib.hid (And.intro HX.out.1 (show ∀ (j : Nat) v, (celA y)[j]? = some v → w5.cell? ⟨xb, j, none⟩ = some v from fun j v hv => kp5.cell (HX.out.2 j v hv) (by simpa using HX.out.1)))
            have HO5 := Lib.hid hh5
            have HK5 := Lib.hid kp5
            clear hf hF kp5 hh5 HX HO
            have HX := HX5
            have HO := HO5
            clear HX5 HO5
            simp only [List.filterMap, List.foldl, List.setIfInBounds_toArray, List.set_cons_succ, List.set_cons_zero]
            go_upto_region 32 with fail
            refine wp_region_steps (σ := Unit) (by kernel_rfl) (by kernel_rfl) (fun _ jx vx _ => BbV w5 wb xb y z1 hi g2 z2 jx vx) (fun _ ly wx => BbW w5 wb xb y z1 hi g2 z2 ly wx) () ?_ ?_ ?_
            · exact ⟨(Keep.refl _ _).drew, by rw [if_neg (by simp)]; exact HO.out⟩
            · simp only [AllFrom, Nat.zero_add, Nat.reduceAdd]
              refine ⟨?_, ?_, ?_, ?_, ?_, ?_, ?_, ?_, ?_, ?_, ?_, ?_, ?_, ?_, ?_, ?_, ?_, ?_, trivial⟩
              · refine step_pure fun sg ly a wr hl hd hW hF => ?_
                have et31 := hF.old 31 (by kernel_rfl)
                simp [Act.eval] at et31
                exact ⟨by simpa [BbW, upd] using hW, .pointer (some ⟨wb, 1, none⟩), by go_simp, rfl⟩
              · refine step_pure fun sg ly a wr hl hd hW hF => ?_
                simp [Region.binds] at hd
                have et209 := hF.new 0 209 (by simp [hd]) rfl
                simp [BbV, Act.eval] at et209
                have n18_15 := hF.notYet 1 15 hl (by kernel_rfl)
                have n18 := hF.notYet 15 17 n18_15 (by kernel_rfl)
                have hh := hW.2
                rw [if_neg (by simp [n18])] at hh
                have c0 := (cell_of_heap hh 1).trans rfl
                exact ⟨by simpa [BbW, upd] using hW, _, by go_simp, rfl⟩
              · refine step_pure fun sg ly a wr hl hd hW hF => ?_
                have et34 := hF.old 34 (by kernel_rfl)
                simp [Act.eval] at et34
                exact ⟨by simpa [BbW, upd] using hW, .pointer (some ⟨xb, 0, none⟩), by go_simp, rfl⟩
              · refine step_pure fun sg ly a wr hl hd hW hF => ?_
                simp [Region.binds] at hd
                have et211 := hF.new 2 211 (by simp [hd]) rfl
                simp [BbV, Act.eval] at et211
                exact ⟨by simpa [BbW, upd] using hW, .pointer (some ⟨xb, 1, none⟩), by go_simp, rfl⟩
              · refine step_pure fun sg ly a wr hl hd hW hF => ?_
                simp [Region.binds] at hd
                have et212 := hF.new 3 212 (by simp [hd]) rfl
                simp [BbV, Act.eval] at et212
                have c0 := hW.1.cell (HX.out.2 1 _ rfl) (by simpa using HX.out.1)
                exact ⟨by simpa [BbW, upd] using hW, .int .i64 y.a1, by go_simp, rfl⟩
              · refine step_pure fun sg ly a wr hl hd hW hF => ?_
                have et34 := hF.old 34 (by kernel_rfl)
                simp [Act.eval] at et34
                exact ⟨by simpa [BbW, upd] using hW, .pointer (some ⟨xb, 2, none⟩), by go_simp, rfl⟩
              · refine step_pure fun sg ly a wr hl hd hW hF => ?_
                simp [Region.binds] at hd
                have et214 := hF.new 5 214 (by simp [hd]) rfl
                simp [BbV, Act.eval] at et214
                exact ⟨by simpa [BbW, upd] using hW, .pointer (some ⟨xb, 3, none⟩), by go_simp, rfl⟩
              · refine step_pure fun sg ly a wr hl hd hW hF => ?_
                simp [Region.binds] at hd
                have et215 := hF.new 6 215 (by simp [hd]) rfl
                simp [BbV, Act.eval] at et215
                have c0 := hW.1.cell (HX.out.2 3 _ rfl) (by simpa using HX.out.1)
                exact ⟨by simpa [BbW, upd] using hW, .int .i64 y.b1, by go_simp, rfl⟩
              · refine step_pure fun sg ly a wr hl hd hW hF => ?_
                have et34 := hF.old 34 (by kernel_rfl)
                simp [Act.eval] at et34
                exact ⟨by simpa [BbW, upd] using hW, .pointer (some ⟨xb, 4, none⟩), by go_simp, rfl⟩
              · refine step_pure fun sg ly a wr hl hd hW hF => ?_
                simp [Region.binds] at hd
                have et217 := hF.new 8 217 (by simp [hd]) rfl
                simp [BbV, Act.eval] at et217
                exact ⟨by simpa [BbW, upd] using hW, .pointer (some ⟨xb, 5, none⟩), by go_simp, rfl⟩
              · refine step_pure fun sg ly a wr hl hd hW hF => ?_
                simp [Region.binds] at hd
                have et218 := hF.new 9 218 (by simp [hd]) rfl
                simp [BbV, Act.eval] at et218
                have c0 := hW.1.cell (HX.out.2 5 _ rfl) (by simpa using HX.out.1)
                exact ⟨by simpa [BbW, upd] using hW, .int .i64 y.c1, by go_simp, rfl⟩
              · refine step_pure fun sg ly a wr hl hd hW hF => ?_
                have et34 := hF.old 34 (by kernel_rfl)
                simp [Act.eval] at et34
                exact ⟨by simpa [BbW, upd] using hW, .pointer (some ⟨xb, 6, none⟩), by go_simp, rfl⟩
              · refine step_pure fun sg ly a wr hl hd hW hF => ?_
                simp [Region.binds] at hd
                have et220 := hF.new 11 220 (by simp [hd]) rfl
                simp [BbV, Act.eval] at et220
                exact ⟨by simpa [BbW, upd] using hW, .pointer (some ⟨xb, 7, none⟩), by go_simp, rfl⟩
              · refine step_pure fun sg ly a wr hl hd hW hF => ?_
                simp [Region.binds] at hd
                have et221 := hF.new 12 221 (by simp [hd]) rfl
                simp [BbV, Act.eval] at et221
                have c0 := hW.1.cell (HX.out.2 7 _ rfl) (by simpa using HX.out.1)
                exact ⟨by simpa [BbW, upd] using hW, .int .i64 y.d1, by go_simp, rfl⟩
              · refine step_call fun sg ly a wr hl hd hW hF => ?_
                simp [Region.binds] at hd
                have et213 := hF.new 4 213 (by simp [hd]) rfl
                simp [BbV, Act.eval] at et213
                have et216 := hF.new 7 216 (by simp [hd]) rfl
                simp [BbV, Act.eval] at et216
                have et219 := hF.new 10 219 (by simp [hd]) rfl
                simp [BbV, Act.eval] at et219
                have et222 := hF.new 13 222 (by simp [hd]) rfl
                simp [BbV, Act.eval] at et222
                refine ⟨59, #[.int .i64 y.a1, .int .i64 y.b1, .int .i64 y.c1, .int .i64 y.d1], by go_simp, ?_⟩
                refine (HGHi.out.1 wr).mono ?_
                rintro e w2 ⟨rfl, rfl⟩
                exact ⟨_, (), rfl, ⟨hW.1, by simpa [upd] using hW.2⟩, rfl, fun _ _ _ h => h⟩
              · refine step_pure fun sg ly a wr hl hd hW hF => ?_
                simp [Region.binds] at hd
                have et210 := hF.new 1 210 (by simp [hd]) rfl
                simp [BbV, Act.eval] at et210
                have et223 := hF.new 14 223 (by simp [hd]) rfl
                simp [BbV, Act.eval] at et223
                have hz := HZHi.out
                exact ⟨by simpa [BbW, upd] using hW, .int .i64 z2, by go_simp, rfl⟩
              · refine step_pure fun sg ly a wr hl hd hW hF => ?_
                have et31 := hF.old 31 (by kernel_rfl)
                simp [Act.eval] at et31
                exact ⟨by simpa [BbW, upd] using hW, .pointer (some ⟨wb, 1, none⟩), by go_simp, rfl⟩
              · refine step_store rfl fun sg ly a wr hl hd hW hF => ?_
                simp [Region.binds] at hd
                have et225 := hF.new 16 225 (by simp [hd]) rfl
                simp [BbV, Act.eval] at et225
                have et224 := hF.new 15 224 (by simp [hd]) rfl
                simp [BbV, Act.eval] at et224
                have hh := hW.2
                rw [if_neg (by simp [hl])] at hh
                have c0 := (cell_of_heap hh 1).trans rfl
                have f0 := frozen_of_heap hh 1
                refine ⟨wr.setCell ⟨wb, 1, none⟩ (.int .i64 z2), (), .skip, by go_simp, .inl rfl, ⟨hW.1.setCell (.inl (by simp)) _, ?_⟩, fun _ _ _ h => h⟩
                rw [if_pos (by simp [upd])]; exact heap_set hh 1 _
            intro _ a w6 hW hF
            obtain ⟨f2, hf, rfl⟩ := hF.lit
            obtain ⟨kp6, hh6⟩ := hW
            simp only [List.length_cons, List.length_nil, Nat.reduceAdd, Nat.reduceLT, decide_true, if_true] at hh6
            have H6 := Lib.hid (And.intro kp6 hh6)
            clear hf hF kp6 hh6 HO HX
            simp only [List.filterMap, List.foldl, List.setIfInBounds_toArray, List.set_cons_succ, List.set_cons_zero]
            go_wp2_with fail
            go_roundg (gk - 1)
            case measure => omega
            case rel =>
              have e0 : ns.take (k + 1) = ns.take k ++ [(m : Int)] := by rw [List.take_succ_eq_append_getElem hlt, HX0.out.1]
              have e1 : celAt cl (m : Int) = y := by rw [HXX.out]; simp [celAt, List.getD_eq_getElem?_getD, List.getElem?_eq_getElem hml]
              refine ⟨k + 1, z1, z2, by omega, rfl, by go_num, by rw [HX0.out.2]; simp [within]; omega, ⟨(HKW.out.1.trans HK5.out (by simp)).trans H6.out.1 (by simp), H6.out.2, ?_, ?_⟩⟩
              · rw [e0, distN_snoc, e1, ← HGLo.out.2, ← HS.out.e1, ← HZLo.out]
                split <;> omega
              · rw [e0, distN_snoc, e1, ← HGHi.out.2, ← HS.out.e2, ← HZHi.out]
                split <;> omega
          · have hout : outL cl.length ns = true := outN_true (k := k + 1) (by rw [HX0.out.2]; simp [within]; omega)
            have hd : dE = 1 := by rw [C.out.dE_]; unfold distE; rw [if_neg (fun h => h (by rw [← C.out.cE_]; exact HN.out.1)), if_pos (.inr hout)]
            have HD := Lib.hid hd
            clear hout hd
            by_cases hr0 : n < 0
            · go_wp2_with fail
              go_meet
              exact ⟨by rw [HD.out], HS.out.kp, lo, hi, HS.out.hh, fun h => by rw [HD.out] at h; cases h⟩
            · have hr1 : (cl.length : Int) ≤ n := by omega
              go_wp2_with fail
              go_meet
              exact ⟨by rw [HD.out], HS.out.kp, lo, hi, HS.out.hh, fun h => by rw [HD.out] at h; cases h⟩
        · obtain rfl : k = ns.length := by omega
          have hno : outL cl.length ns = false := by have := HO1.out; rwa [outN, List.take_length] at this
          have hd : dE = 0 := by rw [C.out.dE_]; unfold distE; rw [if_neg (fun h => h (by rw [← C.out.cE_]; exact HN.out.1)), if_neg (fun h => by rcases h with h | h; exact HN.out.2.1 h; rw [hno] at h; cases h)]
          have HD := Lib.hid hd
          clear hno hd KC
          go_wp2_with fail
          go_meet
          have e1 := HS.out.e1
          have e2 := HS.out.e2
          rw [List.take_length] at e1 e2
          refine ⟨by rw [HD.out], HS.out.kp, lo, hi, HS.out.hh, fun h => ?_⟩
          have hv : distV a b c cl ns = (distN celLo cl ns, distN celHi cl ns) := by unfold distV; rw [if_pos (by rw [← C.out.dE_]; exact h)]
          rw [C.out.d1_, C.out.d2_, hv, e1, e2]
          exact ⟨rfl, rfl⟩
    · have hd := HAB.out.2 hf
      have HD := Lib.hid (And.intro hf hd)
      have hfb : (f0 != 0) = true := by simp [hf]
      clear hf hd
      go_wp2_with fail
      go_loopg [22, 172] (ns.length) (fun g f i wr => g = ns.length ∧ f = .int .i64 f0 ∧ i = .int .i64 0 ∧ w19 = wr)
      case atStart => exact ⟨rfl, rfl, rfl, rfl⟩
      case round =>
        obtain ⟨hg, rfl, rfl, rfl⟩ := hrel
        clear hg
        by_cases hn0 : ns.length = 0
        · have hn1 : ¬ (0 : Int) < (ns.length : Int) := by omega
          have hn2 : ns = [] := List.eq_nil_of_length_eq_zero hn0
          have HNN := Lib.hid hn0
          clear hn0 hn2
          go_wp2_with fail
          go_meet
          exact ⟨by rw [HD.out.2], Keep.refl _ _, 0, 0, HW.out.1, fun h => absurd (HD.out.2.symm.trans h) HD.out.1⟩
        · have hn1 : (0 : Int) < (ns.length : Int) := by omega
          obtain ⟨bn, on, rfl, hbn, hcn⟩ := S18.out.rn.2 (by omega)
          obtain ⟨n, hn⟩ : ∃ n, n = ns.getD 0 0 := ⟨_, rfl⟩
          have j0 : w19.cell? ⟨bn, on, none⟩ = some (.int .i64 n) := by
            have := (HW.out.2.2.cell (p := ⟨bn, on + 0, none⟩) hbn).trans (hcn 0 _ (ints_get (by omega)))
            rwa [Nat.add_zero, ← hn] at this
          have zbn := World.block_lt_of_cell? _ _ j0
          clear hn0 hcn hn
          have hn2 : 0 < ns.length := by omega
          go_wp2_with fail
          go_meet
          exact ⟨by rw [HD.out.2], Keep.refl _ _, 0, 0, HW.out.1, fun h => absurd (HD.out.2.symm.trans h) HD.out.1⟩
  case rest =>
  obtain ⟨rfl, hK, lo, hi, hh, hd⟩ := hcut
  obtain ⟨wa, rfl⟩ : ∃ W, W = wc := ⟨_, rfl⟩
  have bc : Below w18.heap.size w18 wa := HW.out.2.2.trans (hK.below HW.out.2.2.size (by simp; omega))
  have S20 := Lib.hid (S18.out.below bc)
  have E20 := Lib.hid (And.intro ((bc.block _ (heap_lt HE.out.1)).trans HE.out.1) (And.intro (HE.out.2.1.below bc) ((bc.block _ (heap_lt HE.out.2.2)).trans HE.out.2.2)))
  have HH := Lib.hid (And.intro hh (And.intro hd bc))
  have w0 := (cell_of_heap hh 0).trans rfl
  have w1 := (cell_of_heap hh 1).trans rfl
  have zw := heap_lt hh
  have fw0 := frozen_of_heap hh 0
  have fw1 := frozen_of_heap hh 1
  obtain ⟨Bd, hBd⟩ : ∃ Bd, (dE != 0) = Bd := ⟨_, rfl⟩
  clear hK hh hd bc
  go_upto_if 228 with fail
  go_cut [] (fun wx => wx.heap[wb]? = some (.cells #[.int .i64 d1, .int .i64 d2] 33 (0, 0)) ∧ Below w18.heap.size w18 wx)
  case first =>
    cases Bd
    · have h0 : dE = 0 := by simpa using hBd
      have hx := HH.out.2.1 h0
      have HX := Lib.hid hx
      clear h0 hx
      go_wp2_with fail
      go_meet
      have := HH.out.1
      rw [HX.out.1, HX.out.2] at this
      exact ⟨this, HH.out.2.2⟩
    · have h0 : dE ≠ 0 := by simpa using hBd
      have hv : distV a b c cl ns = (0, 0) := by unfold distV; rw [if_neg (by rw [← C.out.dE_]; exact h0)]
      have hx : d1 = 0 ∧ d2 = 0 := by rw [C.out.d1_, C.out.d2_, hv]; exact ⟨rfl, rfl⟩
      have HX := Lib.hid hx
      clear h0 hv hx
      go_wp2_with fail
      go_meet
      refine ⟨?_, (HH.out.2.2.setCell (by simp; omega) _).setCell (by simp; omega) _⟩
      have := heap_set (heap_set HH.out.1 0 (.int .i64 0)) 1 (.int .i64 0)
      rw [HX.out.1, HX.out.2]
      exact this
  case rest =>
  obtain ⟨hh, bc⟩ := hcut
  obtain ⟨w21, rfl⟩ : ∃ W, W = wc := ⟨_, rfl⟩
  clear w0 w1 zw fw0 fw1 hBd HH
  have S21 := Lib.hid (S18.out.below bc)
  have E21 := Lib.hid (And.intro ((bc.block _ (heap_lt HE.out.1)).trans HE.out.1) (HE.out.2.1.below bc))
  have w0 := (cell_of_heap hh 0).trans rfl
  have w1 := (cell_of_heap hh 1).trans rfl
  have zw := heap_lt hh
  have hsb := (bc.block _ (heap_lt HE.out.2.2)).trans HE.out.2.2
  have s0 := (cell_of_heap hsb 0).trans rfl
  have s1 := (cell_of_heap hsb 1).trans rfl
  have zs := heap_lt hsb
  have heq := span_eql_self d1 d2
  clear hh bc hsb
  obtain ⟨⟨a0, a1, a2, a3, a4, za⟩, ⟨b0, b1, b2, b3, b4, zb⟩, ⟨u0, u1, u2, zu⟩, ⟨i0, i1, i2, i3, zi⟩, c0, c1, c2, c3, zc⟩ := S21.out.cells
  go_wp2_with fail
  refine (C.out.sam _ S21.out).mono ?_
  rintro e w22 ⟨rfl, bn⟩
  have S22 := Lib.hid (S21.out.below bn)
  have E22 := Lib.hid (And.intro ((bn.block _ (heap_lt E21.out.1)).trans E21.out.1) (E21.out.2.below bn))
  clear bn w0 w1 zw s0 s1 zs heq a0 a1 a2 a3 a4 za b0 b1 b2 b3 b4 zb u0 u1 u2 zu i0 i1 i2 i3 zi c0 c1 c2 c3 zc
  obtain ⟨⟨a0, a1, a2, a3, a4, za⟩, ⟨b0, b1, b2, b3, b4, zb⟩, ⟨u0, u1, u2, zu⟩, ⟨i0, i1, i2, i3, zi⟩, c0, c1, c2, c3, zc⟩ := S22.out.cells
  go_wp2_with fail
  refine (C.out.sms _ S22.out).mono ?_
  rintro e w23 ⟨rfl, bn⟩
  have S23 := Lib.hid (S22.out.below bn)
  have E23 := Lib.hid (And.intro ((bn.block _ (heap_lt E22.out.1)).trans E22.out.1) (E22.out.2.below bn))
  clear bn a0 a1 a2 a3 a4 za b0 b1 b2 b3 b4 zb u0 u1 u2 zu i0 i1 i2 i3 zi c0 c1 c2 c3 zc
  obtain ⟨⟨a0, a1, a2, a3, a4, za⟩, ⟨b0, b1, b2, b3, b4, zb⟩, ⟨u0, u1, u2, zu⟩, ⟨i0, i1, i2, i3, zi⟩, c0, c1, c2, c3, zc⟩ := S23.out.cells
  go_wp2_with fail
  refine (C.out.smi _ S23.out).mono ?_
  rintro e w24 ⟨rfl, bn⟩
  have S24 := Lib.hid (S23.out.below bn)
  have E24 := Lib.hid (And.intro ((bn.block _ (heap_lt E23.out.1)).trans E23.out.1) (E23.out.2.below bn))
  clear bn a0 a1 a2 a3 a4 za b0 b1 b2 b3 b4 zb u0 u1 u2 zu i0 i1 i2 i3 zi c0 c1 c2 c3 zc
  obtain ⟨⟨a0, a1, a2, a3, a4, za⟩, ⟨b0, b1, b2, b3, b4, zb⟩, ⟨u0, u1, u2, zu⟩, ⟨i0, i1, i2, i3, zi⟩, c0, c1, c2, c3, zc⟩ := S24.out.cells
  have e3 := (cell_of_heap E24.out.1 3).trans rfl
  have ze := heap_lt E24.out.1
  go_wp2_with fail
  refine (C.out.smc _ Aq cq S24.out E24.out.2).mono ?_
  rintro e w25 ⟨rfl, bn⟩
  have S25 := Lib.hid (S24.out.below bn)
  clear bn e3 ze a0 a1 a2 a3 a4 za b0 b1 b2 b3 b4 zb u0 u1 u2 zu i0 i1 i2 i3 zi c0 c1 c2 c3 zc
  go_wp2_with fail
  refine (awake_any _).mono ?_
  rintro e wl ⟨rfl, bn⟩
  have BL := Lib.hid (S25.out.bel.trans (bn.mono S25.out.bel.size))
  clear bn
  go_wp2_with fail
  go_ret
  exact ⟨by simp, BL.out⟩
end Go.Proofs.YtbgnkljjgfcngaaGreat
