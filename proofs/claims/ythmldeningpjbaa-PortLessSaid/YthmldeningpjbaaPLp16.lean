import Derived.Test.YthmldeningpjbaaPLp14
import Derived.Test.YthmldeningpjbaaPLp5
import Derived.Test.YthmldeningpjbaaPLp15
import Derived.Test.YthmldeningpjbaaPLp0
import Derived.Test.YthmldeningpjbaaPLp3
set_option linter.unusedVariables false
set_option linter.unusedSimpArgs false
set_option maxRecDepth 100000
set_option maxHeartbeats 40000000
namespace Go.Proofs.Ythmldeningpjbaa
open Go Go.RowKit Go.Lib Sp Pt
theorem infoRow : (Try.prog.info? 33).map (fun i => (i.zero, i.size, i.bytes)) = some (some (.slice none 0 0), 1, 24) := by kernel_rfl
structure LRow where
  A : Option Addr
  c : Nat
  l : List Int
  q : List Nat
def LRow.v (r : LRow) : Value := .slice r.A r.l.length r.c
def LRow.it (r : LRow) : It := .own 3 1 r.A r.l.length r.c (ints r.l) r.q
structure TrS where
  bs : Nat
  A : Option Addr
  c : Nat
  g : Nat
  rA : Option Addr
  rc : Nat
  rq : List Nat
structure TrW (W0 : World) (tb k : Nat) (A : Option Addr) (c : Nat) (xs : List Value) (q : List Nat) (row : List Int) (s : TrS) (l : Nat → Bool) (w : World) : Prop where
  kp : Keep (tb :: q) W0 w
  own0 : l 7 = false → OwnS w 33 1 A k c xs q
  own1 : l 7 = true → OwnS w 33 1 s.A (k + 1) s.c (xs ++ [.slice s.rA row.length s.rc]) [s.g] ∧ (s.g ∈ q ∨ W0.heap.size ≤ s.g) ∧ s.g ∉ s.rq
  hob : w.heap[tb]? = some (.cells (if l 8 then #[.slice s.A (k + 1) s.c] else #[.slice A k c]) 66 (0, 0))
  hbs : l 6 = true → W0.heap.size ≤ s.bs ∧ w.heap[s.bs]? = some (.cells #[.slice s.rA row.length s.rc] 33 (0, 0)) ∧ s.bs ∉ s.rq
  row : l 5 = true → OwnS w 3 1 s.rA row.length s.rc (ints row) s.rq ∧ ∀ x ∈ s.rq, W0.heap.size ≤ x
  nq : tb ∉ q ∧ tb < W0.heap.size ∧ ∀ x ∈ q, x < W0.heap.size
section
variable {W0 : World} {tb k : Nat} {A : Option Addr} {c : Nat} {xs : List Value} {q : List Nat} {row : List Int} {s : TrS} {l : Nat → Bool} {w w' : World}
theorem TrW.other (H : TrW W0 tb k A c xs q row s l w) (i : Nat) (hi : i ≠ 5 ∧ i ≠ 6 ∧ i ≠ 7 ∧ i ≠ 8) : TrW W0 tb k A c xs q row s (upd l i) w := by
  obtain ⟨a1, a2, a3, a4⟩ := hi;exact ⟨H.kp, by rw [upd_ne a3]; exact H.own0, by rw [upd_ne a3]; exact H.own1, by rw [upd_ne a4]; exact H.hob, by rw [upd_ne a2]; exact H.hbs, by rw [upd_ne a1]; exact H.row, H.nq⟩
theorem TrW.clone (H : TrW W0 tb k A c xs q row s l w) (h6 : l 6 = false) (h7 : l 7 = false) (h8 : l 8 = false) {A' : Option Addr} {c' : Nat} {q' : List Nat} (ho : OwnS w' 3 1 A' row.length c' (ints row) q') (hq : ∀ g ∈ q', w.heap.size ≤ g) (hb : Below w.heap.size w w') :
    TrW W0 tb k A c xs q row { s with rA := A', rc := c', rq := q' } (upd l 5) w' := by
  have K : Keep [] w w' := Keep.of_below hb;have hh := H.hob;rw [h8, if_neg (by simp)] at hh;refine ⟨H.kp.trans K (by simp), ?_, ?_, ?_, ?_, fun _ => ⟨ho, fun x hx => by have := hq x hx; have := H.kp.size; omega⟩, H.nq⟩
  · rw [upd_ne (by decide)]; exact fun e => (H.own0 e).keepS K (by simp)
  · rw [upd_ne (by decide), h7]; exact fun e => by cases e
  · rw [upd_ne (by decide), h8, if_neg (by simp)]; exact (hb.block _ (hL_ hh)).trans hh
  · rw [upd_ne (by decide), h6]; exact fun e => by cases e
theorem TrW.build (H : TrW W0 tb k A c xs q row s l w) (h5 : l 5 = true) (h7 : l 7 = false) (h8 : l 8 = false) : TrW W0 tb k A c xs q row { s with bs := w.heap.size } (upd l 6) (w.alloc (.cells #[.slice s.rA row.length s.rc] 33)) := by
  have hh := H.hob;rw [h8, if_neg (by simp)] at hh;refine ⟨H.kp.alloc _, ?_, ?_, ?_, fun _ => ⟨H.kp.size, heap_alloc_new _ _, fun hm => by have := (H.row h5).1.lt _ hm; simp only at this; omega⟩, ?_, H.nq⟩
  · rw [upd_ne (by decide)]; exact fun e => (H.own0 e).alloc _
  · rw [upd_ne (by decide), h7]; exact fun e => by cases e
  · rw [upd_ne (by decide), h8, if_neg (by simp)]; exact hA_ hh _
  · exact fun _ => ⟨(H.row h5).1.alloc _, (H.row h5).2⟩
theorem TrW.app (H : TrW W0 tb k A c xs q row s l w) (h5 : l 5 = true) (h6 : l 6 = true) (h8 : l 8 = false) {g c' : Nat} (o1 : OwnS w' 33 1 (some ⟨g, 0, none⟩) (k + 1) c' (xs ++ [.slice s.rA row.length s.rc]) [g]) (o2 : g ∈ q ∨ w.heap.size = g) (o3 : Keep q w w') :
    TrW W0 tb k A c xs q row { s with A := some ⟨g, 0, none⟩, c := c', g := g } (upd l 7) w' := by
  have hh := H.hob;rw [h8, if_neg (by simp)] at hh;have hr := H.row h5;have hqr : ∀ x ∈ s.rq, x ∉ q := fun x hx hm => by have := hr.2 x hx; have := H.nq.2.2 x hm; omega
  have hb := H.hbs h6;refine ⟨H.kp.trans o3 (fun x hx => .inl (by simp [hx])), by rw [upd_eq]; exact fun e => (by cases e), fun _ => ⟨o1, by rcases o2 with e | e; exact .inl e; exact .inr (by have := H.kp.size; simp only; omega), fun hm => ?_⟩, ?_, ?_, ?_, H.nq⟩
  · rcases o2 with e | e
    · exact hqr _ hm e
    · have := hr.1.lt _ hm; simp only at this; omega
  · rw [upd_ne (by decide), h8, if_neg (by simp)]; exact (o3.block _ (hL_ hh) H.nq.1).trans hh
  · rw [upd_ne (by decide)];exact fun e => ⟨hb.1, (o3.block _ (hL_ hb.2.1) (fun hm => by have := H.nq.2.2 _ hm; omega)).trans hb.2.1, hb.2.2⟩
  · exact fun _ => ⟨hr.1.keepS o3 hqr, hr.2⟩
theorem TrW.store (H : TrW W0 tb k A c xs q row s l w) (h5 : l 5 = true) (h7 : l 7 = true) (h8 : l 8 = false) : TrW W0 tb k A c xs q row s (upd l 8) (w.setCell ⟨tb, 0, none⟩ (.slice s.A (k + 1) s.c)) := by
  have hh := H.hob;rw [h8, if_neg (by simp)] at hh;have K : Keep [tb] w (w.setCell ⟨tb, 0, none⟩ (.slice s.A (k + 1) s.c)) := (Keep.refl _ _).setCell (.inl (by simp)) _;have hr := H.row h5;have ho := H.own1 h7;have htg : s.g ≠ tb := by
    rcases ho.2.1 with e | e
    · exact fun e2 => H.nq.1 (e2 ▸ e)
    · have := H.nq.2.1; omega
  refine ⟨H.kp.setCell (.inl (by simp)) _, by rw [upd_ne (by decide), h7]; exact fun e => (by cases e), fun _ => ⟨ho.1.keepS K (by simpa using htg), ho.2⟩, ?_, ?_, ?_, H.nq⟩
  · rw [upd_eq, if_pos rfl]; exact hS_ hh 0 _
  · rw [upd_ne (by decide)];exact fun e => ⟨(H.hbs e).1, (K.block _ (hL_ (H.hbs e).2.1) (by have := (H.hbs e).1; have := H.nq.2.1; simp; omega)).trans (H.hbs e).2.1, (H.hbs e).2.2⟩
  · exact fun _ => ⟨hr.1.keepS K (fun x hx => by have := hr.2 x hx; have := H.nq.2.1; simp; omega), hr.2⟩
end
def TrV (wb k n m : Nat) (A : Option Addr) (c : Nat) (B : Option Addr) (d : Nat) (s : TrS) : Nat → Value → Prop
  | 0, v => v = .slice A k c
  | 1, v => v = .pointer (some ⟨wb, 0, none⟩)
  | 2, v => v = .pointer (some ⟨wb, 0, none⟩)
  | 3, v => v = .pointer (some ⟨wb, 2, none⟩)
  | 4, v => v = .slice B m d
  | 5, v => v = .slice s.rA n s.rc
  | 6, v => v = .slice (some ⟨s.bs, 0, none⟩) 1 1
  | 7, v => v = .slice s.A (k + 1) s.c
  | _, _ => True
def trL (gb ub tb k : Nat) (A : Option Addr) (c : Nat) (q : List Nat) (rows : List LRow) : List It := [.any gb, .any ub, .blk tb (.cells #[.slice A k c] 66 (0, 0)), .own 33 1 A k c (rows.map LRow.v) q] ++ rows.map LRow.it
def Trace1Post (D : Nat) (W0 : World) (C : WC) (w : World) (s : Stt) (tb k : Nat) (q : List Nat) (rows : List LRow) (e : Ending) (w' : World) : Prop :=
  e = .returned (.tuple #[]) ∧ ∃ (A : Option Addr) (c : Nat) (q' : List Nat) (r : LRow), r.l = s.brash ∧ Own D W0 (trL C.gb C.ub tb (k + 1) A c q' (rows ++ [r])) w' ∧ Keep (tb :: q) w w' ∧ ∀ x ∈ q', x ∈ q ∨ w.heap.size ≤ x
theorem trace1_any {D : Nat} {W0 : World} {C : WC} {w : World} {s : Stt} (h : Int) (E : WcE C w (brV C) (buV C)) (S : WkS C w w s) (xb tb k : Nat) (A : Option Addr) (c : Nat) (q : List Nat) (rows : List LRow) (hx : w.cell? ⟨xb, 0, none⟩ = some (.pointer (some ⟨C.wb, 0, none⟩))) (hxq : xb ∉ tb :: q) (hwq : C.wb ∉ tb :: q)
    (L0 : Own D W0 (trL C.gb C.ub tb k A c q rows) w) (hk : k ≤ 1000) (hc : C.p.chs.length ≤ 6) :
    Calls Try.prog 81 #[.int .i64 h, .pointer (some ⟨tb, 0, none⟩), .pointer (some ⟨xb, 0, none⟩)] w (Trace1Post D W0 C w s tb k q rows) := by
  obtain ⟨iR, hR0, hR1, hR2, hR3⟩ := info_parts infoRow;have hl := S.len;have c2 := E.cells.2.2.1;have HL := Lib.hid (And.intro hx (And.intro hxq (And.intro c2 hwq)));have ho := L0.owns 3 rfl;have hb := L0.heap 2 rfl;have HO := Lib.hid (And.intro ho (And.intro hb (And.intro (fun hm => L0.dis 2 3 _ _ rfl rfl (by decide) tb (by simp [It.fp]) hm) (And.intro (hL_ hb) (fun x hx => ho.lt x hx)))));have HB := Lib.hid (And.intro S.br (And.intro (fun g hg hm => by
      rw [List.mem_singleton.1 hg] at hm;rcases List.mem_cons.1 hm with e | e
      · exact L0.ne 0 2 rfl rfl (by decide) (x := C.gb) (y := tb) (by simp [It.fp]) (by simp [It.fp]) e
      · exact L0.dis 0 3 _ _ rfl rfl (by decide) C.gb (by simp [It.fp]) e : ∀ g ∈ [C.gb], g ∉ tb :: q) (And.intro (by simp [ints, Value.oneCell'] : ∀ u ∈ ints s.brash, u.oneCell' = true) (And.intro (by omega : C.p.chs.length ≤ 100000000) hl.1))))
  have HS := Lib.hid L0;have zx := World.block_lt_of_cell? _ _ hx;have zw := World.block_lt_of_cell? _ _ c2;simp only at zx zw;clear E S L0 ho hb hx hxq hwq c2 hl
  go_enter Try.func81, Try.ntmps81
  go_upto_region 0 with fail
  refine wRS (σ := TrS) (by kernel_rfl) (by kernel_rfl) (fun sg jx vx _ => TrV C.wb k s.brash.length C.p.chs.length A c (some ⟨C.gb, 0, none⟩) C.c1 sg jx vx) (fun sg ly wx => TrW w tb k A c (rows.map LRow.v) q s.brash sg ly wx) ⟨0, none, 0, 0, none, 0, []⟩ ?_ ?_ ?_
  · exact ⟨(Keep.refl _ _).drew, fun _ => HO.out.1, (fun h => by cases h), by rw [if_neg (by simp)]; exact HO.out.2.1, (fun h => by cases h), (fun h => by cases h), HO.out.2.2⟩
  · simp only [AllFrom, Nat.zero_add, Nat.reduceAdd];refine ⟨?_, ?_, ?_, ?_, ?_, ?_, ?_, ?_, ?_, trivial⟩
    · refine sP_ fun sg ly a wx hl hd hW hF => ?_;have et1 := hF.old 1 (by kernel_rfl);simp [Act.eval] at et1;have nS := hF.notYet 0 8 hl (by kernel_rfl);have hh := hW.hob;rw [if_neg (by simp [nS])] at hh;have cL := (cOH hh 0).trans rfl;have zL := hL_ hh;exact ⟨hW.other _ (by decide), _, by go_simp, rfl⟩
    · refine sP_ fun sg ly a wx hl hd hW hF => ?_;have et2 := hF.old 2 (by kernel_rfl);simp [Act.eval] at et2;have cX := hW.kp.cell HL.out.1 HL.out.2.1;exact ⟨hW.other _ (by decide), _, by go_simp, rfl⟩
    · refine sP_ fun sg ly a wx hl hd hW hF => ?_;simp [Region.binds] at hd;have et5 := hF.new 1 5 (by simp [hd]) rfl;simp [TrV, Act.eval] at et5;have cW := hW.kp.cell HL.out.2.2.1 HL.out.2.2.2;exact ⟨hW.other _ (by decide), _, by go_simp, rfl⟩
    · refine sP_ fun sg ly a wx hl hd hW hF => ?_;simp [Region.binds] at hd;have et6 := hF.new 2 6 (by simp [hd]) rfl;simp [TrV, Act.eval] at et6;exact ⟨hW.other _ (by decide), _, by go_simp, rfl⟩
    · refine sP_ fun sg ly a wx hl hd hW hF => ?_;simp [Region.binds] at hd;have et7 := hF.new 3 7 (by simp [hd]) rfl;simp [TrV, Act.eval] at et7;have cW := hW.kp.cell HL.out.2.2.1 HL.out.2.2.2;exact ⟨hW.other _ (by decide), _, by go_simp, rfl⟩
    · refine sC_ fun sg ly a wx hl hd hW hF => ?_;simp [Region.binds] at hd;have et8 := hF.new 4 8 (by simp [hd]) rfl;simp [TrV, Act.eval] at et8;have n6 := hF.notYet 5 6 hl (by kernel_rfl);have n7 := hF.notYet 5 7 hl (by kernel_rfl);have n8 := hF.notYet 5 8 hl (by kernel_rfl);refine ⟨82, #[.slice (some ⟨C.gb, 0, none⟩) C.p.chs.length C.c1], by go_simp, ?_⟩;refine (clonePtI_any _ _ C.c1 (ints s.brash) wx (HB.out.1.keepS hW.kp HB.out.2.1).rd HB.out.2.2.1 (by simp) HB.out.2.2.2.1).mono ?_;rintro e w2 ⟨A2, c2, q2, rfl, o1, o2, o3⟩;rw [← HB.out.2.2.2.2] at o1;refine ⟨.slice A2 s.brash.length c2, { sg with rA := A2, rc := c2, rq := q2 }, by rw [HB.out.2.2.2.2], hW.clone n6 n7 n8 o1 o2 o3, rfl, ?_⟩;intro i u hi h;have i5 : i ≠ 5 := by rintro rfl; rw [hl] at hi; cases hi
      have i6 : i ≠ 6 := by rintro rfl; rw [n6] at hi; cases hi
      have i7 : i ≠ 7 := by rintro rfl; rw [n7] at hi; cases hi
      unfold TrV at h ⊢;split at h <;> first | exact h | exact absurd rfl i5 | exact absurd rfl i6 | exact absurd rfl i7
    · refine sR_ fun sg ly a wx hl hd hW hF => ?_;simp [Region.binds] at hd;have et9 := hF.new 5 9 (by simp [hd]) rfl;simp [TrV, Act.eval] at et9;have n7 := hF.notYet 6 7 hl (by kernel_rfl);have n8 := hF.notYet 6 8 hl (by kernel_rfl);have y5 : ly 5 = true := by simp [hd]
      refine ⟨_, wx.alloc (.cells #[.slice sg.rA s.brash.length sg.rc] 33), { sg with bs := wx.heap.size }, by go_simp, hW.build y5 n7 n8, rfl, ?_⟩;intro i u hi h;have i6 : i ≠ 6 := by rintro rfl; rw [hl] at hi; cases hi
      unfold TrV at h ⊢;split at h <;> first | exact h | exact absurd rfl i6
    · intro sg ly a wx hl hd hW hF;simp [Region.binds] at hd;have et4 := hF.new 0 4 (by simp [hd]) rfl;simp [TrV, Act.eval] at et4;have et10 := hF.new 6 10 (by simp [hd]) rfl;simp [TrV, Act.eval] at et10;have n8 := hF.notYet 7 8 hl (by kernel_rfl);have y6 : ly 6 = true := by simp [hd]
      have y5 : ly 5 = true := by simp [hd]
      have hbs := hW.hbs y6;refine wp_append_S (.tmp 4) (.tmp 10) 66 rfl iR _ 24 Try.underlying66 hR0 hR1 hR2 (by decide) hR3 rfl (by simpa [Act.eval] using et4) ⟨sg.bs, 0, none⟩ (by simpa [Act.eval] using et10) [.slice sg.rA s.brash.length sg.rc] (hW.own0 hl) rfl (fun j v hj => by rw [show (⟨sg.bs, 0, none⟩ : Addr).add j = ⟨sg.bs, j, none⟩ from by simp [Addr.add]; omega]; exact (cOH hbs.2.1 j).trans (by simpa using hj)) (by simp [Value.oneCell']) (by omega) (by omega) ?_;intro g c' w' o1 o2 o3 o4;refine ⟨{ sg with A := some ⟨g, 0, none⟩, c := c', g := g }, _, rfl, hW.app y5 y6 n8 o1 o2 o4, fun _ => rfl, ?_⟩;intro i u hi h;have i7 : i ≠ 7 := by rintro rfl; rw [hl] at hi; cases hi
      unfold TrV at h ⊢;split at h <;> first | exact h | exact absurd rfl i7
    · refine sS_ rfl fun sg ly a wx hl hd hW hF => ?_;simp [Region.binds] at hd;have et1 := hF.old 1 (by kernel_rfl);simp [Act.eval] at et1;have et11 := hF.new 7 11 (by simp [hd]) rfl;simp [TrV, Act.eval] at et11;have y7 : ly 7 = true := by simp [hd]
      have y5 : ly 5 = true := by simp [hd]
      have hh := hW.hob;rw [if_neg (by simp [hl])] at hh;have cL := (cOH hh 0).trans rfl;have fL := fOH hh 0;have zL := hL_ hh;exact ⟨_, sg, .skip, by go_simp, .inl rfl, hW.store y5 y7 hl, fun _ _ _ h => h⟩
  intro sg af w4 hWW hF;obtain ⟨ff, hf, rfl⟩ := hF.lit;clear hf hF;obtain ⟨o1, o2, o3⟩ := hWW.own1 rfl;obtain ⟨r1, r2⟩ := hWW.row rfl;have hob := hWW.hob;simp only [List.length_cons, List.length_nil, Nat.reduceAdd, Nat.reduceLT, decide_true, if_true] at hob;have kp := hWW.kp;obtain ⟨r, hr⟩ : ∃ r : LRow, r = ⟨sg.rA, sg.rc, s.brash, sg.rq⟩ := ⟨_, rfl⟩;have L4 : Own D W0 (trL C.gb C.ub tb (k + 1) sg.A sg.c [sg.g] (rows ++ [r])) w4 := by
    have L0 := HS.out;have hlen : (rows.map LRow.it).length = rows.length := by simp
    have hget : ∀ {a : Nat} {j : It}, (trL C.gb C.ub tb (k + 1) sg.A sg.c [sg.g] (rows ++ [r]))[a]? = some j →
        (a = 2 ∧ j = .blk tb (.cells #[.slice sg.A (k + 1) sg.c] 66 (0, 0))) ∨ (a = 3 ∧ j = .own 33 1 sg.A (k + 1) sg.c ((rows ++ [r]).map LRow.v) [sg.g]) ∨ (a = 4 + rows.length ∧ j = r.it) ∨ (a ≠ 2 ∧ a ≠ 3 ∧ a ≠ 4 + rows.length ∧ (trL C.gb C.ub tb k A c q rows)[a]? = some j) := by
      intro a j hj;unfold trL at hj ⊢
      match a with
      | 0 => exact .inr (.inr (.inr ⟨by decide, by decide, by omega, by simpa using hj⟩))
      | 1 => exact .inr (.inr (.inr ⟨by decide, by decide, by omega, by simpa using hj⟩))
      | 2 => exact .inl ⟨rfl, by simpa using hj.symm⟩
      | 3 => exact .inr (.inl ⟨rfl, by simpa using hj.symm⟩)
      | a + 4 =>
        rw [List.getElem?_append_right (by simp)] at hj;simp only [List.length_cons, List.length_nil, Nat.reduceAdd, Nat.add_sub_cancel, List.map_append, List.map_cons, List.map_nil] at hj;rw [List.getElem?_append] at hj;split at hj
        · rename_i h1
          refine .inr (.inr (.inr ⟨by omega, by omega, by simp at h1; omega, ?_⟩));rw [List.getElem?_append_right (by simp)];simpa using hj
        · rename_i h1
          have h2 := (List.getElem?_eq_some_iff.1 hj).1;simp at h1 h2;have h3 : a = rows.length := by omega
          subst h3;simp at hj;exact .inr (.inr (.inl ⟨by omega, hj.symm⟩))
    refine L0.updG _ (fun a => a = 2 ∨ a = 3 ∨ a = 4 + rows.length) kp (fun x hx => .inl ?_) (fun a j hj => ?_) (fun a j hj hc => ?_) (fun a b i j hi hj hab ha hb x hx hy hz => ?_)
    · rcases List.mem_cons.1 hx with e | hx
      · exact ⟨2, _, .inl rfl, rfl, by rw [e]; simp [It.fp]⟩
      · exact ⟨3, _, .inr (.inl rfl), rfl, hx⟩
    · rcases hget hj with ⟨e, _⟩ | ⟨e, _⟩ | ⟨e, _⟩ | ⟨_, _, _, e⟩
      · exact .inl (.inl e)
      · exact .inl (.inr (.inl e))
      · exact .inl (.inr (.inr e))
      · exact .inr e
    · rcases hget hj with ⟨e, rfl⟩ | ⟨e, rfl⟩ | ⟨e, rfl⟩ | ⟨e1, e2, e3, e⟩
      · subst e; exact ⟨hob, fun x hx => .inl ⟨_, rfl, hx⟩⟩
      · subst e;refine ⟨by rw [List.map_append, hr]; exact o1, fun x hx => ?_⟩;rw [List.mem_singleton.1 hx];rcases o2 with q1 | q1
        · exact .inl ⟨.own 33 1 A k c (rows.map LRow.v) q, rfl, q1⟩
        · exact .inr q1
      · rw [hr]; exact ⟨r1, fun x hx => .inr (r2 x hx)⟩
      · rcases hc with q1 | q1 | q1
        · exact absurd q1 e1
        · exact absurd q1 e2
        · exact absurd q1 e3
    · have htb := hL_ (L0.heap 2 rfl);have F : ∀ {a : Nat} {i : It}, (trL C.gb C.ub tb (k + 1) sg.A sg.c [sg.g] (rows ++ [r]))[a]? = some i → (a = 2 ∨ a = 3 ∨ a = 4 + rows.length) → x ∈ i.fp → (a = 3 ∧ x = sg.g) ∨ (a = 4 + rows.length ∧ x ∈ sg.rq) := by
        intro a i hi hc hx;rcases hget hi with ⟨e, rfl⟩ | ⟨e, rfl⟩ | ⟨e, rfl⟩ | ⟨e1, e2, e3, e⟩
        · rw [List.mem_singleton.1 hx] at hz; omega
        · exact .inl ⟨e, List.mem_singleton.1 hx⟩
        · rw [hr] at hx; exact .inr ⟨e, hx⟩
        · omega
      rcases F hi ha hx with ⟨e1, e2⟩ | ⟨e1, e2⟩
      · rcases F hj hb hy with ⟨e3, e4⟩ | ⟨e3, e4⟩
        · omega
        · exact o3 (e2 ▸ e4)
      · rcases F hj hb hy with ⟨e3, e4⟩ | ⟨e3, e4⟩
        · exact o3 (e4 ▸ e2)
        · omega
  clear o1 r1 r2 hob hWW;simp only [List.filterMap, List.foldl, List.setIfInBounds_toArray, List.set_cons_succ, List.set_cons_zero];have HF := Lib.hid (And.intro L4 (And.intro kp o2));clear L4 kp o2 o3;go_wp2_with fail
  go_end0
  refine ⟨rfl, sg.A, sg.c, [sg.g], r, by rw [hr], HF.out.1, HF.out.2.1, fun x hx => by rw [List.mem_singleton.1 hx]; exact HF.out.2.2⟩
end Go.Proofs.Ythmldeningpjbaa
namespace Go.Proofs.Ythmldeningpjbaa
open Go Go.RowKit Go.Lib Sp Pt
theorem boxes3 {D : Nat} {Ac : Option Addr} {cc : Nat} {Ab : Option Addr} {cb : Nat} {p : Prt} {Al : Option Addr} {cl : Nat} {As : Option Addr} {cs : Nat} {l : Pln} {Ar : Option Addr} {cr : Nat} {Au : Option Addr} {cu : Nat} {s : Stt} {w W : World}
    (PB : PrtB D w Ac cc Ab cb p) (LB : PlnB D w Al cl As cs l) (SB : SttB D w Ar cr Au cu s) (hD : D ≤ w.heap.size) (hW : W = ((w.alloc (.cells (prtV Ac cc Ab cb p) 26)).alloc (.cells (sttV Ar cr Au cu s) 42)).alloc (.cells (plnV Al cl As cs l) 31)) {pb sb lb : Nat} (hpb : pb = w.heap.size) (hsb : sb = w.heap.size + 1) (hlb : lb = w.heap.size + 1 + 1) :
    Below w.heap.size w W ∧ W.heap[pb]? = some (.cells (prtV Ac cc Ab cb p) 26 (0, 0)) ∧ W.heap[sb]? = some (.cells (sttV Ar cr Au cu s) 42 (0, 0)) ∧ W.heap[lb]? = some (.cells (plnV Al cl As cs l) 31 (0, 0)) ∧
      Calls Try.prog 72 #[.agg (prtV Ac cc Ab cb p), .agg (sttV Ar cr Au cu s), .agg (plnV Al cl As cs l)] W (StartPost W D Ac cc Ab cb p Al cl As cs l s) := by
  have b0 : Below w.heap.size w W := by rw [hW]; exact (((Below.refl _ _).alloc (Nat.le_refl _) _).alloc (by simp) _).alloc (by simp; omega) _
  refine ⟨b0, ?_, ?_, ?_, start_any D Ac cc Ab cb p Al cl As cs l Ar cr Au cu s W (PB.below (b0.mono hD)) (LB.below (b0.mono hD)) (SB.below (b0.mono hD)) (by have := b0.size; omega)⟩
  · rw [hW, hpb]; exact hA_ (hA_ (heap_alloc_new _ _) _) _
  · rw [hW, hsb];refine hA_ ?_ _;have := heap_alloc_new (w.alloc (.cells (prtV Ac cc Ab cb p) 26)) (.cells (sttV Ar cr Au cu s) 42)
    rwa [World.size_alloc] at this
  · rw [hW, hlb];have := heap_alloc_new ((w.alloc (.cells (prtV Ac cc Ab cb p) 26)).alloc (.cells (sttV Ar cr Au cu s) 42)) (.cells (plnV Al cl As cs l) 31)
    rwa [World.size_alloc, World.size_alloc] at this
def traceS (p : Prt) (l : Pln) (s : Stt) (k : Nat) : List (List Int) := (List.range k).map fun j => (stN p l s j).brash
theorem traceS_succ (p : Prt) (l : Pln) (s : Stt) (k : Nat) : traceS p l s (k + 1) = traceS p l s k ++ [(stN p l s k).brash] := by simp [traceS, List.range_succ]
def traceV (p : Prt) (s : Stt) (l : Pln) : List (List Int) := if runE p s l = 0 then traceS p l s (l.hours.toNat + 1) else []
def LsR (w : World) (A : Option Addr) (n : Nat) (rows : List LRow) : Prop := Rd w 1 A n (rows.map LRow.v) ∧ ∀ r ∈ rows, Rd w 1 r.A r.l.length (ints r.l)
def TracePost (w : World) (p : Prt) (s : Stt) (l : Pln) (e : Ending) (w' : World) : Prop :=
  ∃ A c rows, e = .returned (.tuple #[.slice A (traceV p s l).length c, .int .i64 (runE p s l)]) ∧ LsR w' A (traceV p s l).length rows ∧ rows.map (·.l) = traceV p s l ∧ Below w.heap.size w w'
def JTr (D : Nat) (W : World) (C : WC) (s : Stt) (tb k : Nat) (w : World) : Prop :=
  ∃ A c q rows, rows.map (·.l) = traceS C.p C.l s k ∧ Own D W (trL C.gb C.ub tb k A c q rows) w ∧ ∀ x ∈ q, W.heap.size ≤ x
theorem Trace_any (D : Nat) (Ac : Option Addr) (cc : Nat) (Ab : Option Addr) (cb : Nat) (p : Prt) (Al : Option Addr) (cl : Nat) (As : Option Addr) (cs : Nat) (l : Pln) (Ar : Option Addr) (cr : Nat) (Au : Option Addr) (cu : Nat) (s : Stt) (w : World)
    (PB : PrtB D w Ac cc Ab cb p) (LB : PlnB D w Al cl As cs l) (SB : SttB D w Ar cr Au cu s) (hD : D ≤ w.heap.size) :
    Calls Try.prog 27 #[.agg (prtV Ac cc Ab cb p), .agg (sttV Ar cr Au cu s), .agg (plnV Al cl As cs l)] w (TracePost w p s l) := by
  obtain ⟨W, hW⟩ : ∃ W, W = ((w.alloc (.cells (prtV Ac cc Ab cb p) 26)).alloc (.cells (sttV Ar cr Au cu s) 42)).alloc (.cells (plnV Al cl As cs l) 31) := ⟨_, rfl⟩;obtain ⟨pb, hpb⟩ : ∃ b, b = w.heap.size := ⟨_, rfl⟩;obtain ⟨sb, hsb⟩ : ∃ b, b = w.heap.size + 1 := ⟨_, rfl⟩;obtain ⟨lb, hlb⟩ : ∃ b, b = w.heap.size + 1 + 1 := ⟨_, rfl⟩;obtain ⟨b0, hp, hs, hl, kst⟩ := boxes3 PB LB SB hD hW hpb hsb hlb;have c0 : W.cell? ⟨pb, 0, none⟩ = some (.slice Ac p.chs.length cc) := (cOH hp 0).trans rfl;have c1 : W.cell? ⟨pb, 1, none⟩ = some (.slice Ab p.bts.length cb) := (cOH hp 1).trans rfl;have c2 : W.cell? ⟨pb, 2, none⟩ = some (.int .i64 p.tugs) := (cOH hp 2).trans rfl;have c3 : W.cell? ⟨lb, 0, none⟩ = some (.int .i64 l.hours) := (cOH hl 0).trans rfl;have c4 : W.cell? ⟨lb, 1, none⟩ = some (.slice Al l.calls.length cl) := (cOH hl 1).trans rfl;have c5 : W.cell? ⟨lb, 2, none⟩ = some (.slice As l.swps.length cs) := (cOH hl 2).trans rfl;have c6 : W.cell? ⟨sb, 0, none⟩ = some (.slice Ar s.brash.length cr) := (cOH hs 0).trans rfl;have c7 : W.cell? ⟨sb, 1, none⟩ = some (.slice Au s.busy.length cu) := (cOH hs 1).trans rfl;have zp := hL_ hp;have zl := hL_ hl;have zs := hL_ hs;have H := Lib.hid (And.intro b0 (And.intro kst hD));clear b0 hp hs hl kst PB LB SB hD
  go_enter Try.func27, Try.ntmps27
  go_upto_region 1 with fail
  rw [← hW, ← hlb, ← hsb, ← hpb];clear hW hlb hsb hpb;go_wp2_with fail
  refine H.out.2.1.mono ?_;rintro e w1 ⟨b1, hcase⟩;have bw1 : Below w.heap.size w w1 := H.out.1.trans (b1.mono H.out.1.size);clear c0 c1 c2 c3 c4 c5 c6 c7 zp zl zs;rcases hcase with ⟨hne, rfl⟩ | ⟨he, c, hM, hS, rfl⟩
  · obtain ⟨er, her⟩ : ∃ er, er = startE p s l := ⟨_, rfl⟩;rw [← her] at hne ⊢;have hnb : (er != 0) = true := by simpa using hne
    have hv : runE p s l = er := by unfold runE; rw [if_pos (by rw [← her]; exact hne), her]
    have hvv : traceV p s l = [] := by unfold traceV; rw [if_neg (by rw [hv]; exact hne)]
    have HF := Lib.hid (And.intro hv (And.intro hvv bw1));clear hv hvv bw1 her hne b1;go_wp2_with fail
    go_ret2
    refine ⟨none, 0, [], ?_, ⟨by rw [HF.out.2.1]; exact Rd.nil _ _ _, by simp⟩, by rw [HF.out.2.1]; rfl, HF.out.2.2.alloc HF.out.2.2.size _⟩;rw [HF.out.1, HF.out.2.1]; rfl
  · obtain ⟨hc, hlen1, hlen2, hbr⟩ := start_bd he;obtain ⟨q1, q2, q3, q4, q5, q6, q7, q8, q9, q10, q11⟩ := hM.eq;have v : Val c.p c.l := by rw [q6, q11]; exact val_of hc
    obtain ⟨xb, hxb⟩ : ∃ b, b = w1.heap.size := ⟨_, rfl⟩;obtain ⟨tb, htb⟩ : ∃ b, b = w1.heap.size + 1 := ⟨_, rfl⟩;obtain ⟨X, hX⟩ : ∃ X, X = (w1.alloc (.cells #[.pointer (some ⟨c.wb, 0, none⟩)] 145)).alloc (.cells #[.slice none 0 0] 66) := ⟨_, rfl⟩;have bX : Below w1.heap.size w1 X := by rw [hX]; exact ((Below.refl _ _).alloc (Nat.le_refl _) _).alloc (by simp) _
    have hx : X.heap[xb]? = some (.cells #[.pointer (some ⟨c.wb, 0, none⟩)] 145 (0, 0)) := by rw [hX, hxb]; exact hA_ (heap_alloc_new _ _) _
    have ht : X.heap[tb]? = some (.cells #[.slice none 0 0] 66 (0, 0)) := by
      rw [hX, htb];have := heap_alloc_new (w1.alloc (.cells #[.pointer (some ⟨c.wb, 0, none⟩)] 145)) (.cells #[.slice none 0 0] 66)
      rwa [World.size_alloc] at this
    have E := hM.E.below bX;have S : WkS c X X s := (hS.below bX).start;have hnew := hM.new;have hz := hM.E.cells;have hzg := hS.br.lt c.gb (by simp);have hzu := hS.bu.lt c.ub (by simp);have hWD : W.heap.size ≤ X.heap.size := by have := b1.size; have := bX.size; omega
    have J0 : JTr W.heap.size X c s tb 0 X := by
      refine ⟨none, 0, [], [], rfl, ?_, by simp⟩;have h1 := (Own.nil (w := X) hWD).add (i := .any c.gb) (by show c.gb < X.heap.size; have := bX.size; omega) (by simp [It.fp]; omega) (by simp);have h2 := h1.add (i := .any c.ub) (by show c.ub < X.heap.size; have := bX.size; omega) (by simp [It.fp]; omega) (by simp [It.fp]; exact fun e => hM.N.ne e.symm);have h3 := h2.add (i := .blk tb (.cells #[.slice none 0 0] 66 (0, 0))) ht (by simp [It.fp]; omega) (by simp [It.fp]; omega);exact h3.add (i := .own 33 1 none 0 0 ([].map LRow.v) []) (OwnS.nil _ _ _) (by simp [It.fp]) (by simp [It.fp])
    have hTn : ∀ x ∈ [tb], x ≠ c.wb ∧ x ≠ c.pb ∧ x ≠ c.lb ∧ c.D ≤ x ∧ x ≠ c.gb ∧ x ≠ c.ub := by
      intro x hx;rw [List.mem_singleton.1 hx];have h1 := hz.2.2.2.2.2.2.2.2.2;have h2 := hM.N.g;omega
    have xne : xb ≠ tb ∧ xb ≠ c.gb ∧ xb ≠ c.ub ∧ c.wb ≠ tb ∧ xb < X.heap.size ∧ c.wb < X.heap.size := by
      have h1 := hz.2.2.2.2.2.2.2.2.2;have := hL_ hx;have := bX.size;omega
    have hxc : X.cell? ⟨xb, 0, none⟩ = some (.pointer (some ⟨c.wb, 0, none⟩)) := (cOH hx 0).trans rfl;have hH : c.l.hours.toNat ≤ 100 := by have := v.h; omega
    have step : ∀ (k : Nat) (w : World), k ≤ c.l.hours.toNat → WcE c w (brV c) (buV c) → WkS c w w (stN c.p c.l s k) → JTr W.heap.size X c s tb k w → Keep (c.gb :: c.ub :: [tb]) X w →
        Calls Try.prog 81 (#[.int .i64 k] ++ #[.pointer (some ⟨tb, 0, none⟩), .pointer (some ⟨xb, 0, none⟩)]) w fun e w' => e = .returned (.tuple #[]) ∧ (∃ T', Keep T' w w' ∧ ∀ x ∈ T', x ∈ [tb] ∨ X.heap.size ≤ x) ∧ JTr W.heap.size X c s tb (k + 1) w' := by
      intro k wx hk E1 S1 hJ hK;obtain ⟨A, cA, q, rows, hr, hO, hq⟩ := hJ;refine (trace1_any (k : Int) E1 S1 xb tb k A cA q rows (hK.cell hxc (by simp; omega)) ?_ ?_ hO (by omega) v.nc.2).mono ?_
      · simp only [List.mem_cons, not_or]; exact ⟨xne.1, fun hm => by have := hq _ hm; omega⟩
      · simp only [List.mem_cons, not_or]; exact ⟨xne.2.2.2.1, fun hm => by have := hq _ hm; omega⟩
      · rintro e w' ⟨rfl, A', c', q', r, hrl, hO', kp, hq'⟩;refine ⟨rfl, ⟨_, kp, fun x hx => ?_⟩, A', c', q', rows ++ [r], ?_, hO', fun x hx => ?_⟩
        · rcases List.mem_cons.1 hx with e | e
          · exact .inl (by simp [e])
          · exact .inr (hq x e)
        · rw [List.map_append, hr, traceS_succ, ← hrl]; rfl
        · rcases hq' x hx with e | e
          · exact hq x e
          · have := hK.size; omega
    have keepJ : ∀ (k : Nat) (w w' : World), Keep [c.gb, c.ub] w w' → JTr W.heap.size X c s tb k w → JTr W.heap.size X c s tb k w' := by
      rintro k wx w' hk ⟨A, cA, q, rows, hr, hO, hq⟩;refine ⟨A, cA, q, rows, hr, hO.keepAny hk (fun x hx => .inl ?_), hq⟩;rcases List.mem_cons.1 hx with e | e
      · exact ⟨0, by rw [e]; rfl⟩
      · exact ⟨1, by rw [List.mem_singleton.1 e]; rfl⟩
    have cbTr : ∀ (a : Array Value) (w : World), (callFunc 81 a).run Try.prog w = .ok (.enter 81 a) w := fun a w => by go_simp
    have krun := run_any E hM.N S v (brR_of (by decide) hbr) 81 74 #[.pointer (some ⟨tb, 0, none⟩), .pointer (some ⟨xb, 0, none⟩)] #[] cbTr cbNothing [tb] hTn (fun k w => JTr W.heap.size X c s tb k w) (fun k w => JTr W.heap.size X c s tb (k + 1) w) (fun k w => JTr W.heap.size X c s tb (k + 1) w) J0
      step (fun k w _ _ _ hj _ => (nothing_any _ _).mono fun e w' h => ⟨h.1, ⟨[], by rw [← h.2]; exact Keep.refl _ _, by simp⟩, by rw [← h.2]; exact hj⟩) (fun k w w' hk hj => keepJ _ _ _ hk hj) (fun k w w' hk hj => keepJ _ _ _ hk hj)
    have HM := Lib.hid (And.intro krun (And.intro he (And.intro bw1 (And.intro bX (And.intro q6 (And.intro q11 hnew))))));have hWw := H.out.1.size;have htw : W.heap.size ≤ tb := by have := b1.size; omega
    clear krun J0 hTn step keepJ cbTr he bw1 E S v hM hS hc hbr hlen1 hlen2 q1 q2 q3 q4 q5 q6 q7 q8 q9 q10 q11 b1 hz hnew hzg hzu hH hWD;clear xne hx;have zx := World.block_lt_of_cell? _ _ hxc;simp only at zx;go_upto_region 5 with fail
    rw [← hX, ← htb, ← hxb];clear hX htb hxb;go_wp2_with fail
    refine HM.out.1.mono ?_;rintro e w3 ⟨rfl, kp, hok⟩;rw [HM.out.2.2.2.2.1, HM.out.2.2.2.2.2.1] at hok ⊢;obtain ⟨R, hR⟩ : ∃ R, R = runR p l s := ⟨_, rfl⟩;rw [← hR] at hok ⊢;obtain ⟨i, er⟩ := R;have hv : runE p s l = er := by unfold runE; rw [if_neg (by rw [HM.out.2.1]; simp), ← hR]
    have bX3 : Below w.heap.size w w3 := (HM.out.2.2.1.trans (HM.out.2.2.2.1.mono HM.out.2.2.1.size)).trans (kp.below (by have := HM.out.2.2.1.size; have := HM.out.2.2.2.1.size; omega) (by have := HM.out.2.2.2.2.2.2; simp; omega));clear hR kp hxc zx ht;by_cases her : er = 0
    · subst her;have hvv : traceV p s l = traceS p l s (l.hours.toNat + 1) := by unfold traceV; rw [if_pos hv]
      obtain ⟨_, A, cA, q, rows, hr, hO, hq⟩ := hok rfl;rw [HM.out.2.2.2.2.1, HM.out.2.2.2.2.2.1] at hr;have hh := hO.heap 2 rfl;have ho := hO.owns 3 rfl;have hlen : (traceV p s l).length = l.hours.toNat + 1 := by rw [hvv]; simp [traceS]
      have t0 : w3.cell? ⟨tb, 0, none⟩ = some (.slice A (l.hours.toNat + 1) cA) := (cOH hh 0).trans rfl;have zt := hL_ hh;have hrows : ∀ r ∈ rows, Rd w3 1 r.A r.l.length (ints r.l) := fun r hm => by
        obtain ⟨j, hj, e⟩ := List.mem_iff_getElem.1 hm;have := hO.owns (4 + j) (e := 3) (sz := 1) (A := r.A) (n := r.l.length) (c := r.c) (xs := ints r.l) (q := r.q) (by
          unfold trL;rw [List.getElem?_append_right (by simp)];simp only [List.length_cons, List.length_nil, Nat.reduceAdd, Nat.add_sub_cancel_left, List.getElem?_map, List.getElem?_eq_getElem hj, e];rfl)
        exact this.rd
      have HF := Lib.hid (And.intro hv (And.intro hlen (And.intro bX3 (And.intro ho.rd (And.intro hrows (hr.trans hvv.symm))))));clear hv hvv hlen bX3 hok hh ho hr hO hq hrows;go_wp2_with fail
      go_ret2
      refine ⟨A, cA, rows, ?_, ⟨?_, HF.out.2.2.2.2.1⟩, HF.out.2.2.2.2.2, HF.out.2.2.1⟩
      · rw [HF.out.1, HF.out.2.1]; rfl
      · rw [HF.out.2.1]; exact HF.out.2.2.2.1
    · have hnb : (er != 0) = true := by simpa using her
      have hvv : traceV p s l = [] := by unfold traceV; rw [if_neg (by rw [hv]; exact her)]
      have HF := Lib.hid (And.intro hv (And.intro hvv bX3));clear hv hvv bX3 hok;go_wp2_with fail
      go_ret2
      refine ⟨none, 0, [], ?_, ⟨by rw [HF.out.2.1]; exact Rd.nil _ _ _, by simp⟩, by rw [HF.out.2.1]; rfl, HF.out.2.2⟩;rw [HF.out.1, HF.out.2.1]; rfl
end Go.Proofs.Ythmldeningpjbaa
namespace Go.Proofs.Ythmldeningpjbaa
open Go Go.RowKit Sp Pt
structure BrR where
  b : Brt
  A : Option Addr
  c : Nat
deriving Inhabited
def brc (y : BrR) : List Value := [.int .i64 y.b.depth, .slice y.A y.b.path.length y.c]
abbrev brcs (l : List BrR) : List Value := l.flatMap brc
theorem brcs_one (l : List BrR) : ∀ u ∈ brcs l, u.oneCell' = true := by
  intro u hu;obtain ⟨y, _, hy⟩ := List.mem_flatMap.1 hu;simp [brc] at hy;rcases hy with rfl | rfl <;> rfl
theorem brcs_get {l : List BrR} {k : Nat} (hk : k < l.length) : (brcs l)[k*2]? = some (.int .i64 l[k].b.depth) ∧ (brcs l)[k*2+1]? = some (.slice l[k].A l[k].b.path.length l[k].c) :=
  ⟨flat_get (f := brc) (s := 2) (fun _ => rfl) hk (j := 0) (by decide), flat_get (f := brc) (s := 2) (fun _ => rfl) hk (j := 1) (by decide)⟩
theorem brcs_len (l : List BrR) : (brcs l).length = l.length * 2 := flat_len (f := brc) (s := 2) (fun _ => rfl) l
theorem BtsB.rows {D : Nat} {w : World} {A : Option Addr} {l : List Brt} (h : BtsB D w A l) :
    ∃ L : List BrR, L.map (·.b) = l ∧ RdB D w 2 A l.length (brcs L) ∧ ∀ y ∈ L, PathB D w y.A y.c y.b.path := by
  by_cases h0 : l = []
  · subst h0;exact ⟨[], rfl, ⟨rfl, fun h => absurd h (by simp)⟩, by simp⟩
  have hn : 0 < l.length := List.length_pos_iff.2 h0;obtain ⟨b, off, _, _, hA, hb, _⟩ := h 0 hn;have key : ∀ k : Fin l.length, ∃ y : BrR, y.b = l[k.1] ∧ w.cell? ⟨b, off + k.1*2, none⟩ = some (.int .i64 l[k.1].depth) ∧ w.cell? ⟨b, off + k.1*2 + 1, none⟩ = some (.slice y.A l[k.1].path.length y.c) ∧ PathB D w y.A y.c l[k.1].path := by
    intro k;obtain ⟨b', off', Ak, ck, e, _, h1, h2, h3⟩ := h k.1 k.2;rw [hA] at e;injection e with e
    injection e with e1 e2 _
    subst e1 e2;exact ⟨⟨l[k.1], Ak, ck⟩, rfl, h1, h2, h3⟩
  obtain ⟨f, hf⟩ := Classical.axiomOfChoice key;have hlen : (List.ofFn f).length = l.length := by simp
  have hget : ∀ k (hk : k < l.length), (List.ofFn f)[k]'(by rw [hlen]; exact hk) = f ⟨k, hk⟩ := fun k hk => by simp
  refine ⟨List.ofFn f, ?_, ⟨by rw [brcs_len, hlen], fun _ => ⟨b, off, hA, hb, fun j u hu => ?_⟩⟩, fun y hy => ?_⟩
  · refine List.ext_getElem (by simp) fun k h1 h2 => ?_;simp only [List.getElem_map, List.getElem_ofFn];exact (hf ⟨k, h2⟩).1
  · have hj := (List.getElem?_eq_some_iff.1 hu).1;rw [brcs_len, hlen] at hj;have hk : j / 2 < l.length := by omega
    obtain ⟨g0, g1⟩ := brcs_get (l := List.ofFn f) (k := j / 2) (by rw [hlen]; exact hk);obtain ⟨e0, e1, e2, _⟩ := hf ⟨j / 2, hk⟩;rw [hget _ hk, e0] at g0 g1;rcases (by omega : j % 2 = 0 ∨ j % 2 = 1) with h | h
    · rw [show j = j / 2 * 2 from by omega, g0] at hu;injection hu with hu
      rw [show j = j / 2 * 2 from by omega, ← hu];exact e1
    · rw [show j = j / 2 * 2 + 1 from by omega, g1] at hu;injection hu with hu
      rw [show off + j = off + j / 2 * 2 + 1 from by omega, ← hu];exact e2
  · obtain ⟨k, rfl⟩ := (List.mem_ofFn).1 hy;obtain ⟨e0, _, _, e3⟩ := hf k;rw [e0];exact e3
theorem BtsB.of_rows {D : Nat} {w : World} {A : Option Addr} {l : List Brt} {L : List BrR} (hm : L.map (·.b) = l) (hr : RdB D w 2 A l.length (brcs L)) (hp : ∀ y ∈ L, PathB D w y.A y.c y.b.path) : BtsB D w A l := by
  intro k hk;have hk' : k < L.length := by rw [← hm] at hk; simpa using hk
  have e : L[k].b = l[k] := by subst hm; simp
  obtain ⟨b, off, hA, hb, hc⟩ := hr.2 (by omega);obtain ⟨g0, g1⟩ := brcs_get hk';rw [e] at g0 g1;have := hp _ (List.getElem_mem hk');rw [e] at this;exact ⟨b, off, L[k].A, L[k].c, hA, hb, hc _ _ g0, by rw [Nat.add_assoc]; exact hc _ _ g1, this⟩
end Go.Proofs.Ythmldeningpjbaa
namespace Go.Proofs.Ythmldeningpjbaa
open Go Go.RowKit Sp Pt
structure PathN (S : List Nat) (w : World) (A : Option Addr) (c : Nat) (l : List Int) : Prop where
  rd : Rd w 1 A l.length (ints l)
  off : 0 < l.length → ∀ b o, A = some ⟨b, o, none⟩ → b ∉ S
  ge : l.length ≤ c
  cap : c ≤ 9223372036854775807
  nil : A = none → c = 0
section
variable {S S' : List Nat} {w w' : World} {A : Option Addr} {c : Nat} {l : List Int}
theorem PathN.of_pathB {D : Nat} (h : PathB D w A c l) (hD : D ≤ w.heap.size) (hS : ∀ x ∈ S, D ≤ x) : PathN S w A c l :=
  ⟨h.1.rd hD, fun h0 b o e hm => by
    obtain ⟨b', o', e', hb, _⟩ := h.1.2 h0;rw [e] at e';injection e' with e'
    injection e' with e1
    have := hS b hm;omega, h.2.1, h.2.2.1, h.2.2.2⟩
theorem PathN.pathB (h : PathN S w A c l) : PathB w.heap.size w A c l := ⟨RdB.of h.rd (Nat.le_refl _), h.ge, h.cap, h.nil⟩
theorem PathN.of_ownA {e : TypeId} {q : List Nat} (h : OwnA w e A l.length c (ints l) q) (hS : ∀ g ∈ q, g ∉ S) : PathN S w A c l := by
  refine ⟨h.rd, fun h0 b o he hm => hS b (h.mem_ h0 he) hm, h.ge, ?_, fun hA => ?_⟩
  · rcases h.2 with ⟨_, _, rfl, _⟩ | ⟨g, off, cur, _, _, _, _, h, _⟩
    · omega
    · exact h
  · rcases h.2 with ⟨_, _, h2, _⟩ | ⟨g, off, cur, h1, _⟩
    · exact h2
    · rw [hA] at h1; cases h1
theorem PathN.keep (h : PathN S w A c l) {T : List Nat} (hk : Keep T w w') (hT : ∀ x ∈ T, x ∈ S ∨ w.heap.size ≤ x) (hS : ∀ x ∈ S', x ∈ S ∨ w.heap.size ≤ x) : PathN S' w' A c l := by
  have hlt : ∀ b o, 0 < l.length → A = some ⟨b, o, none⟩ → b < w.heap.size := fun b o h0 e => by
    obtain ⟨b', o', e', hb, _⟩ := h.rd.2 h0;rw [e] at e';injection e' with e'
    injection e' with e1
    omega
  by_cases h0 : 0 < l.length
  · refine ⟨hk.rd h.rd fun b o e hm => ?_, fun _ b o e hm => ?_, h.ge, h.cap, h.nil⟩
    · have := hlt b o h0 e;rcases hT b hm with h1 | h1
      · exact h.off h0 b o e h1
      · omega
    · have := hlt b o h0 e;rcases hS b hm with h1 | h1
      · exact h.off h0 b o e h1
      · omega
  · exact ⟨⟨h.rd.1, fun h1 => absurd h1 h0⟩, fun h1 => absurd h1 h0, h.ge, h.cap, h.nil⟩
end
def PathsN (S : List Nat) (w : World) (L : List BrR) : Prop := ∀ y ∈ L, PathN S w y.A y.c y.b.path
section
variable {S S' : List Nat} {w w' : World} {L : List BrR}
theorem PathsN.keep (h : PathsN S w L) {T : List Nat} (hk : Keep T w w') (hT : ∀ x ∈ T, x ∈ S ∨ w.heap.size ≤ x) (hS : ∀ x ∈ S', x ∈ S ∨ w.heap.size ≤ x) : PathsN S' w' L := fun y hy => (h y hy).keep hk hT hS
theorem PathsN.set (h : PathsN S w L) {k : Nat} {y : BrR} (hy : PathN S w y.A y.c y.b.path) : PathsN S w (L.set k y) := fun z hz => by
  rcases List.mem_or_eq_of_mem_set hz with h1 | rfl
  · exact h z h1
  · exact hy
theorem PathsN.snoc (h : PathsN S w L) {y : BrR} (hy : PathN S w y.A y.c y.b.path) : PathsN S w (L ++ [y]) := fun z hz => by
  rcases List.mem_append.1 hz with h1 | h1
  · exact h z h1
  · rw [List.mem_singleton.1 h1]; exact hy
end
theorem brcs_set {L : List BrR} {k : Nat} (hk : k < L.length) (A : Option Addr) (c : Nat) : brcs (L.set k ⟨L[k].b, A, c⟩) = (brcs L).set (k * 2 + 1) (.slice A L[k].b.path.length c) := by
  induction L generalizing k with
  | nil => simp at hk
  | cons x L ih =>
    cases k with
    | zero => simp [brcs, brc]
    | succ k =>
      have := ih (k := k) (by simpa using hk);simp only [List.set_cons_succ, brcs, List.flatMap_cons, List.getElem_cons_succ] at this ⊢;rw [this];simp [brc, show (k + 1) * 2 + 1 = k * 2 + 1 + 1 + 1 from by omega]
theorem map_set_b {L : List BrR} {k : Nat} (hk : k < L.length) (A : Option Addr) (c : Nat) : (L.set k ⟨L[k].b, A, c⟩).map (·.b) = L.map (·.b) := by
  rw [List.map_set];have : (L.map (·.b))[k]'(by simpa using hk) = L[k].b := by simp
  rw [← this, List.set_getElem_self]
theorem OwnS.nilS {w : World} {e : TypeId} {sz : Nat} {A : Option Addr} {n c : Nat} {xs : List Value} {q : List Nat} (h : OwnS w e sz A n c xs q) (hA : A = none) : c = 0 := by
  rcases h.2 with ⟨_, _, h2, _⟩ | ⟨g, cur, h1, _⟩
  · exact h2
  · rw [hA] at h1; cases h1
theorem PrtB.of_own {w : World} {e1 e2 : TypeId} {Ac Ab : Option Addr} {cc cb : Nat} {q1 q2 S : List Nat} {p : Prt} {L : List BrR} (h1 : OwnS w e1 3 Ac p.chs.length cc (chcs p.chs) q1) (h2 : OwnS w e2 2 Ab p.bts.length cb (brcs L) q2) (hL : L.map (·.b) = p.bts) (hp : PathsN S w L) : PrtB w.heap.size w Ac cc Ab cb p :=
  ⟨RdB.of h1.rd (Nat.le_refl _), BtsB.of_rows hL (RdB.of h2.rd (Nat.le_refl _)) (fun y hy => (hp y hy).pathB), ⟨h1.ge, h1.cap, h1.nilS⟩, ⟨h2.ge, h2.cap, h2.nilS⟩⟩
theorem PlnB.of_own {w : World} {e1 e2 : TypeId} {Al As : Option Addr} {cl cs : Nat} {q1 q2 : List Nat} {l : Pln} (h1 : OwnS w e1 6 Al l.calls.length cl (cacs l.calls) q1) (h2 : OwnS w e2 3 As l.swps.length cs (swcs l.swps) q2) : PlnB w.heap.size w Al cl As cs l :=
  ⟨RdB.of h1.rd (Nat.le_refl _), RdB.of h2.rd (Nat.le_refl _), ⟨h1.ge, h1.cap, h1.nilS⟩, ⟨h2.ge, h2.cap, h2.nilS⟩⟩
end Go.Proofs.Ythmldeningpjbaa
namespace Go.Proofs.Ythmldeningpjbaa
open Go Go.RowKit Sp Pt
def newQ (w w' : World) : List Nat := (List.range w'.heap.size).filter (fun x => decide (w.heap.size ≤ x))
theorem mem_newQ {w w' : World} {x : Nat} : x ∈ newQ w w' ↔ w.heap.size ≤ x ∧ x < w'.heap.size := by simp [newQ, and_comm]
def noIt : It := .gen [] (fun _ => True)
section
variable {D : Nat} {W0 w w' : World} {L : List It}
theorem Own.blank (h : Own D W0 L w) : Own D W0 (L ++ [noIt]) w := h.add (i := noIt) ⟨by simp, fun _ _ _ _ => trivial⟩ (by simp [noIt, It.fp]) (by simp [noIt, It.fp])
theorem Own.newG (h : Own D W0 L w) (k : Nat) (hi : L[k]? = some noIt) {q : List Nat} {P : World → Prop} (hb : Below w.heap.size w w') (hh : (It.gen q P).holds D w') (hf : ∀ x ∈ q, w.heap.size ≤ x) : Own D W0 (L.set k (.gen q P)) w' :=
  h.upd k hi (Keep.of_below hb) hh (fun x hx => .inr (hf x hx))
theorem Own.newB (h : Own D W0 L w) (k : Nat) (hi : L[k]? = some noIt) (o : Obj) : Own D W0 (L.set k (.blk w.heap.size o)) (w.alloc o) :=
  h.upd k hi ((Keep.refl _ _).alloc _) (heap_alloc_new w o) (fun x hx => .inr (by rw [List.mem_singleton.1 hx]; exact Nat.le_refl _))
theorem Own.thing (h : Own D W0 L w) (k : Nat) {q : List Nat} {P : World → Prop} (hi : L[k]? = some (.gen q P)) : P w := (h.get k hi).2 [] w (Keep.refl _ _) (by simp)
end
def PrtH (Ac : Option Addr) (cc : Nat) (Ab : Option Addr) (cb : Nat) (p : Prt) : World → Prop := fun w => PrtB w.heap.size w Ac cc Ab cb p
def NewPrt (w : World) (p : Prt) (e : Ending) (w' : World) : Prop := ∃ Ac1 cc1 Ab1 cb1 q, e = .returned (.agg (prtV Ac1 cc1 Ab1 cb1 p)) ∧ (∀ D, (It.gen q (PrtH Ac1 cc1 Ab1 cb1 p)).holds D w') ∧ (∀ x ∈ q, w.heap.size ≤ x) ∧ Below w.heap.size w w'
theorem prtH_new {w w' : World} {e1 e2 : TypeId} {Ac Ab : Option Addr} {cc cb : Nat} {q1 q2 : List Nat} {p : Prt} {L : List BrR} (h1 : OwnS w' e1 3 Ac p.chs.length cc (chcs p.chs) q1) (h2 : OwnS w' e2 2 Ab p.bts.length cb (brcs L) q2) (hL : L.map (·.b) = p.bts) (hp : PathsN (List.range w.heap.size) w' L)
    (hq1 : ∀ x ∈ q1, w.heap.size ≤ x) (hq2 : ∀ x ∈ q2, w.heap.size ≤ x) (D : Nat) : (It.gen (newQ w w') (PrtH Ac cc Ab cb p)).holds D w' := by
  refine ⟨fun x hx => (mem_newQ.1 hx).2, fun S wx hk hS => ?_⟩;refine PrtB.of_own (S := []) (h1.keepS hk (fun g hg hm => hS g hm (mem_newQ.2 ⟨hq1 g hg, h1.lt g hg⟩))) (h2.keepS hk (fun g hg hm => hS g hm (mem_newQ.2 ⟨hq2 g hg, h2.lt g hg⟩))) hL (fun y hy => ?_);have hy' := hp y hy;by_cases h0 : 0 < y.b.path.length
  · refine ⟨hk.rd hy'.rd fun b o e hm => ?_, fun _ _ _ _ => by simp, hy'.ge, hy'.cap, hy'.nil⟩;obtain ⟨b', o', e', hb, _⟩ := hy'.rd.2 h0;rw [e] at e';injection e' with e'
    injection e' with e1 _ _
    have := hy'.off h0 b o e;simp only [List.mem_range, Nat.not_lt] at this;exact hS b hm (mem_newQ.2 ⟨this, by omega⟩)
  · exact ⟨⟨hy'.rd.1, fun h1 => absurd h1 h0⟩, fun h1 => absurd h1 h0, hy'.ge, hy'.cap, hy'.nil⟩
end Go.Proofs.Ythmldeningpjbaa
namespace Go.Proofs.Ythmldeningpjbaa
open Go Go.RowKit Sp Pt
theorem callsN_lens (p : Prt) (h : Int) : ∀ (l : List Cal) (i : Nat) (s : Stt), (callsN p h l i s).2.2.brash.length = s.brash.length ∧ (callsN p h l i s).2.2.busy.length = s.busy.length
  | [], _, _ => ⟨rfl, rfl⟩
  | c :: l, i, s => by
    rw [callsN];split
    · exact callsN_lens p h l _ _
    · split
      · exact ⟨rfl, rfl⟩
      · split
        · exact ⟨rfl, rfl⟩
        · have := callsN_lens p h l (i + 1) ⟨growN p (bt p c.berth).path s.brash, s.busy.set c.berth.toNat (!c.out)⟩;rw [this.1, this.2];simp [growN_length]
theorem hourR_lens (p : Prt) (l : Pln) (k : Nat) (s : Stt) : (hourR p l k s).2.2.brash.length = s.brash.length ∧ (hourR p l k s).2.2.busy.length = s.busy.length := by
  have := callsN_lens p k l.calls 0 ⟨swpN p k l.swps s.brash, s.busy⟩;unfold hourR;rw [this.1, this.2];simp [swpN_length]
theorem stN_lens (p : Prt) (l : Pln) (s : Stt) : ∀ k, (stN p l s k).brash.length = s.brash.length ∧ (stN p l s k).busy.length = s.busy.length
  | 0 => ⟨rfl, rfl⟩
  | k + 1 => by
    have h1 := hourR_lens p l k (stN p l s k);have h2 := stN_lens p l s k;rw [stN];unfold hourS frostL;simp only [frostN_length];exact ⟨h1.1.trans h2.1, h1.2.trans h2.2⟩
theorem start_hours {p : Prt} {s : Stt} {l : Pln} (h : startE p s l = 0) : l.hours.toNat ≤ 100 := by
  have h1 := (checkL_ok (start_bd h).1).2.2.1;omega
theorem slotV_short {p : Prt} {s : Stt} {l : Pln} {b m t : Int} : (slotV p s l b m t).length ≤ 1000 := by
  unfold slotV;split
  · next h =>
    have h0 : startE p s l = 0 := by
      unfold slotE at h;split at h
      · next h1 => exact absurd h h1
      · next h1 => exact Decidable.not_not.1 h1
    have h1 := start_hours h0;have h2 := slotS_len (slotOk p s l (bt p b).path m t) l.hours.toNat;omega
  · simp
end Go.Proofs.Ythmldeningpjbaa
