/- log.entry -/
import Derived.Test.YtaokegobilphnaaGreatDoorLLp9
import Derived.Test.YtaokegobilphnaaGreatDoorLLp5
set_option linter.unusedVariables false
set_option linter.unusedSimpArgs false
namespace Go.Proofs.YtaokegobilphnaaGreatDoor
open Go Go.RowKit Go.Shelf Go.Proofs Sp Lg
set_option linter.unusedVariables false
set_option linter.unusedSimpArgs false

theorem intsN_get {vs : List Nat} {j : Nat} (h : j < vs.length) : (ints (vs.map Int.ofNat))[j]? = some (.int .i64 (vs.getD j 0 : Nat)) := by
  rw [ints_get (by simpa using h)]
  simp [h]
theorem heap_sets {b : Nat} {t : TypeId} {fr : Nat × Nat} : ∀ (vs : List Value) (o : Nat) (w : World) (cs : Array Value), w.heap[b]? = some (.cells cs t fr) →
    ∃ cs', (w.setCells b o vs).heap[b]? = some (.cells cs' t fr) ∧ cs'.size = cs.size ∧ (∀ j, j < o → cs'[j]? = cs[j]?) ∧ ∀ j u, vs[j]? = some u → o + j < cs.size → cs'[o + j]? = some u
  | [], o, w, cs, h => ⟨cs, h, rfl, fun _ _ => rfl, fun j u hu => by simp at hu⟩
  | v :: vs, o, w, cs, h => by
    obtain ⟨cs', h1, h2, h3, h4⟩ := heap_sets vs (o + 1) (w.setCell ⟨b, o, none⟩ v) (cs.setIfInBounds o v) (heap_set h o v)
    refine ⟨cs', h1, by rw [h2]; simp, fun j hj => ?_, fun j u hu hl => ?_⟩
    · rw [h3 j (by omega), Array.getElem?_setIfInBounds, if_neg (by omega)]
    · cases j with
      | zero =>
        simp at hu
        subst hu
        rw [Nat.add_zero, h3 o (by omega), Array.getElem?_setIfInBounds]
        simp; omega
      | succ j =>
        have := h4 j u (by simpa using hu) (by simp; omega)
        rwa [show o + (j + 1) = o + 1 + j from by omega]
theorem keep_sets (b : Nat) : ∀ (vs : List Value) (o : Nat) (w : World), Keep [b] w (w.setCells b o vs)
  | [], o, w => Keep.refl _ _
  | v :: vs, o, w => ((Keep.refl [b] w).setCell (p := ⟨b, o, none⟩) (.inl (by simp)) v).trans (keep_sets b vs (o + 1) _) (fun x hx => .inl hx)
theorem ent_results {F : Func} {r s : Nat} (hF : F.results = #[.cell r 93, .tmp s]) {W : World} {b : Nat} {v0 v1 v2 v3 v4 : Value} (h : W.heap[b]? = some (.cells #[v0, v1, v2, v3, v4] 93 (0, 0))) (tmps : Array Value) (v : Value) (hr : tmps.getD r undef = .pointer (some ⟨b, 0, none⟩)) (hs : tmps.getD s undef = v) :
    (results F tmps).run Tryz.prog W = .ok (.tuple #[.agg #[v0, v1, v2, v3, v4], v]) W := by
  have g8 : tmps[r]?.getD undef = .pointer (some ⟨b, 0, none⟩) := by simpa using hr
  have g9 : tmps[s]?.getD undef = v := by simpa using hs
  have c0 : W.cell? ⟨b, 0, none⟩ = some v0 := (cell_of_heap h 0).trans rfl
  have c1 : W.cell? ⟨b, 1, none⟩ = some v1 := (cell_of_heap h 1).trans rfl
  have c2 : W.cell? ⟨b, 2, none⟩ = some v2 := (cell_of_heap h 2).trans rfl
  have c3 : W.cell? ⟨b, 3, none⟩ = some v3 := (cell_of_heap h 3).trans rfl
  have c4 : W.cell? ⟨b, 4, none⟩ = some v4 := (cell_of_heap h 4).trans rfl
  simp [results, hF, g8, g9, asAddr, go_sem, c0, c1, c2, c3, c4]
/-- an entry's cells -/
abbrev eC (m p : Int) (V : ByteArray) (A : Option Addr) (n c : Nat) (N : ByteArray) : Obj := .cells #[.int .i64 m, .int .i64 p, .string V, .slice A n c, .string N] 93
def put5 (W : World) (b : Nat) (x0 x1 x2 x3 x4 : Value) : World := ((((W.setCell ⟨b, 0, none⟩ x0).setCell ⟨b, 1, none⟩ x1).setCell ⟨b, 2, none⟩ x2).setCell ⟨b, 3, none⟩ x3).setCell ⟨b, 4, none⟩ x4
theorem put5_heap {W : World} {b : Nat} {u0 u1 u2 u3 u4 : Value} {t : TypeId} (h : W.heap[b]? = some (.cells #[u0, u1, u2, u3, u4] t (0, 0))) (x0 x1 x2 x3 x4 : Value) : (put5 W b x0 x1 x2 x3 x4).heap[b]? = some (.cells #[x0, x1, x2, x3, x4] t (0, 0)) :=
  heap_set (heap_set (heap_set (heap_set (heap_set h 0 x0) 1 x1) 2 x2) 3 x3) 4 x4
theorem put5_keep (W : World) (b : Nat) (x0 x1 x2 x3 x4 : Value) : Keep [b] W (put5 W b x0 x1 x2 x3 x4) :=
  (((((Keep.refl [b] W).setCell (p := ⟨b, 0, none⟩) (.inl (by simp)) x0).setCell (p := ⟨b, 1, none⟩) (.inl (by simp)) x1).setCell (p := ⟨b, 2, none⟩) (.inl (by simp)) x2).setCell (p := ⟨b, 3, none⟩) (.inl (by simp)) x3).setCell (p := ⟨b, 4, none⟩) (.inl (by simp)) x4
/-- nothing but the result's block has changed, which is an entry's still -/
def StE (rb : Nat) (W w' : World) : Prop := Keep [rb] W w' ∧ ∃ a b c d e, w'.heap[rb]? = some (.cells #[a, b, c, d, e] 93 (0, 0))
def rcel (b j : Nat) (w : World) : Value := (w.cell? ⟨b, j, none⟩).getD undef
theorem StE.start {rb : Nat} {W : World} {a b c d e : Value} (h : W.heap[rb]? = some (.cells #[a, b, c, d, e] 93 (0, 0))) : StE rb W W.drew := ⟨(Keep.refl _ _).drew, a, b, c, d, e, h⟩
theorem StE.below {rb : Nat} {W w w' : World} (h : StE rb W w) (hb : Below w.heap.size w w') : StE rb W w' := by
  obtain ⟨h1, a, b, c, d, e, h2⟩ := h
  exact ⟨h1.trans (Keep.of_below (S := []) hb) (by simp), a, b, c, d, e, (hb.block rb (heap_lt h2)).trans h2⟩
theorem StE.put {rb : Nat} {W w : World} (h : StE rb W w) (x0 x1 x2 x3 x4 : Value) : StE rb W (((((w.setCell ⟨rb, 0, none⟩ x0).setCell ⟨rb, 1, none⟩ x1).setCell ⟨rb, 2, none⟩ x2).setCell ⟨rb, 3, none⟩ x3).setCell ⟨rb, 4, none⟩ x4) := by
  obtain ⟨h1, a, b, c, d, e, h2⟩ := h
  exact ⟨h1.trans (put5_keep w rb x0 x1 x2 x3 x4) (fun _ hx => .inl hx), _, _, _, _, _, put5_heap h2 _ _ _ _ _⟩
theorem StE.cel {rb : Nat} {W w : World} (h : StE rb W w) {j : Nat} (hj : j < 5) : w.cell? ⟨rb, j, none⟩ = some (rcel rb j w) := by
  obtain ⟨h1, a, b, c, d, e, h2⟩ := h
  have := cell_of_heap h2 j
  unfold rcel
  rw [this]
  rcases j with _ | _ | _ | _ | _ | j
  · rfl
  · rfl
  · rfl
  · rfl
  · rfl
  · omega
theorem StE.frz {rb : Nat} {W w : World} (h : StE rb W w) (j : Nat) : w.frozen? ⟨rb, j, none⟩ = false := by
  obtain ⟨h1, a, b, c, d, e, h2⟩ := h
  exact frozen_of_heap h2 j
def EnyPost (w : World) (s : By) (e : Ending) (w' : World) : Prop :=
  ∃ x A c, e = .returned (.tuple #[.agg (entC x A c), .bool (entB s).isSome]) ∧ Below w.heap.size w w' ∧ ∀ y, entB s = some y → x = y ∧ Rd w' 1 A y.args.length (ints y.args) ∧ ∀ b off, A = some ⟨b, off, none⟩ → w.heap.size ≤ b
theorem eny_no {w w' : World} {s : By} (h : entB s = none) (b : Below w.heap.size w w') : EnyPost w s (.returned (.tuple #[.agg #[.int .i64 0, .int .i64 0, .string ⟨#[]⟩, .slice none 0 0, .string ⟨#[]⟩], .bool false])) w' :=
  ⟨⟨0, 0, [], [], []⟩, none, 0, by rw [h]; rfl, b, fun y hy => by rw [h] at hy; cases hy⟩
set_option maxRecDepth 100000 in
set_option maxHeartbeats 4000000 in
theorem gEntry_any (s : ByteArray) (w : World) (hs : s.size ≤ 1000000) (E : Env w) :
    Calls Tryz.prog 86 #[.string s] w (EnyPost w s.data.toList) := by
  have hlen : s.data.toList.length = s.size := Array.length_toList
  obtain ⟨T, hT⟩ : ∃ T, T = s.data.toList := ⟨_, rfl⟩
  rw [← hT]
  obtain ⟨iI, hI0, hI1, hI2, hI3⟩ := info_parts infoLgI
  obtain ⟨rb, hrb⟩ : ∃ b, b = w.heap.size := ⟨_, rfl⟩
  obtain ⟨xb, hxb⟩ : ∃ b, b = (w.alloc (eC 0 0 ⟨#[]⟩ none 0 0 ⟨#[]⟩)).heap.size := ⟨_, rfl⟩
  obtain ⟨W2, hW2⟩ : ∃ W, W = (w.alloc (eC 0 0 ⟨#[]⟩ none 0 0 ⟨#[]⟩)).alloc (eC 0 0 ⟨#[]⟩ none 0 0 ⟨#[]⟩) := ⟨_, rfl⟩
  have O2 : Own w.heap.size w [.blk rb (eC 0 0 ⟨#[]⟩ none 0 0 ⟨#[]⟩), .blk xb (eC 0 0 ⟨#[]⟩ none 0 0 ⟨#[]⟩)] W2 := by
    rw [hW2, hrb, hxb]; exact ((Own.start w).alloc _).alloc _
  have hxb2 : xb = rb + 1 := by rw [hxb, hrb, World.size_alloc]
  have E2 := Env.below E O2.bel
  obtain ⟨mm, hmm⟩ := E2.1
  have kI := Tryz.strings_Index s ⟨#[32, 34]⟩ mm W2 (by omega) hmm
  obtain ⟨iN, hiN⟩ : ∃ i, i = noteAt T := ⟨_, rfl⟩
  have hiN' : Lib.index s.data.toList (⟨#[32, 34]⟩ : ByteArray).data.toList = iN := by rw [hiN, hT]; rfl
  rw [hiN'] at kI
  have H := Lib.hid (And.intro hT (And.intro O2 (And.intro E (And.intro kI (And.intro hiN (And.intro hlen hrb))))))
  clear hT hlen O2 E E2 hmm kI hiN hiN'
  go_enter Tryz.func86, Tryz.ntmps86
  go_upto_region 2 with fail
  rw [← hW2, ← hrb, ← hxb2]
  have HX := Lib.hid hxb2
  clear hW2 hxb hrb hxb2
  go_upto_if 17 with (go_at_call 106; refine H.out.2.2.2.1.mono ?_; rintro e w3 ⟨rfl, rfl⟩)
  go_cut [0, 3, 6, 7] from 18 to 37 (fun s0 ok nt er wz => ok = .bool false ∧ ∃ note : By, s0 = .string (bs (headP T)) ∧ noteP T = some note ∧ ¬ (0 ≤ iN ∧ note = []) ∧ note.length ≤ 1000000 ∧ Own w.heap.size w [.blk rb (eC 0 0 ⟨#[]⟩ none 0 0 ⟨#[]⟩), .blk xb (eC 0 0 ⟨#[]⟩ none 0 0 (bs note))] wz)
  case first =>
    by_cases h0 : 0 ≤ iN
    · obtain ⟨k, rfl⟩ : ∃ k : Nat, iN = k := ⟨iN.toNat, by omega⟩
      have hsp := noteAt_split H.out.2.2.2.2.1.symm
      have hk2 : k + 2 ≤ s.size := by
        have h1 := congrArg List.length hsp
        rw [List.length_append, List.length_take, List.length_cons, List.length_cons, List.length_drop] at h1
        have := H.out.2.2.2.2.2.1
        rw [← H.out.1] at this
        omega
      have hx : s.extract (k + 1) s.size = bs (T.drop (k + 1)) := by
        rw [H.out.1]
        conv => lhs; rw [← bs_eta s]
        rw [bs_ext, List.take_of_length_le]
        rw [List.length_drop, bs_size]; omega
      have hx0 : s.extract 0 k = bs (T.take k) := by
        rw [H.out.1]
        conv => lhs; rw [← bs_eta s]
        rw [bs_ext]; simp
      have hhd : headP T = T.take k := by unfold headP; rw [← H.out.2.2.2.2.1, if_pos h0]; simp
      have hnp : noteP T = unq (T.drop (k + 1)) := by unfold noteP; rw [← H.out.2.2.2.2.1, if_pos h0]; simp
      have kU := gUnquote_any (s.extract (k + 1) s.size) w3 (by rw [hx, bs_size, List.length_drop]; have := H.out.2.2.2.2.2.1; rw [← H.out.1] at this; omega)
      rw [show (s.extract (k + 1) s.size).data.toList = T.drop (k + 1) from by rw [hx]] at kU
      obtain ⟨V, hV⟩ : ∃ V, V = bs (lgUnqV (T.drop (k + 1))) := ⟨_, rfl⟩
      cases hq : unq (T.drop (k + 1)) with
      | none =>
        have kU2 : Calls Tryz.prog 26 #[.string (s.extract (k + 1) s.size)] w3 fun e w' => e = .returned (.tuple #[.string V, .int .i64 3]) ∧ Below w3.heap.size w3 w' := kU.mono fun e w' h => by
          obtain ⟨h1, h2⟩ := h
          refine ⟨?_, h2⟩
          rw [h1, hV]; unfold lgUnqE; rw [hq]; rfl
        have hno : entB T = none := by rw [← entP_eq]; unfold entP; rw [hnp, hq]
        have HU := Lib.hid (And.intro kU2 hno)
        clear kU kU2 hno hV hq hsp hx hx0 hhd hnp
        go_upto_region 6 with (go_at_call 26; refine HU.out.1.mono ?_; rintro e W4 ⟨rfl, b4⟩; have h4 := H.out.2.1.below b4; have H4 := Lib.hid h4; clear h4 b4)
        have hr4 := H4.out.heap 0 rfl
        have r0 := (cell_of_heap hr4 0).trans rfl
        have r1 := (cell_of_heap hr4 1).trans rfl
        have r2 := (cell_of_heap hr4 2).trans rfl
        have r3 := (cell_of_heap hr4 3).trans rfl
        have r4 := (cell_of_heap hr4 4).trans rfl
        have fr0 := frozen_of_heap hr4 0
        have fr1 := frozen_of_heap hr4 1
        have fr2 := frozen_of_heap hr4 2
        have fr3 := frozen_of_heap hr4 3
        have fr4 := frozen_of_heap hr4 4
        have zr := heap_lt hr4
        clear hr4
        go_wp2_with fail
        refine bodyPost_ret (ent_results rfl (put5_heap (H4.out.heap 0 rfl) _ _ _ _ _) _ _ rfl rfl) rfl ?_
        exact eny_no HU.out.2 (H4.out.set 0 rfl (put5_keep _ _ _ _ _ _ _) (put5_heap (H4.out.heap 0 rfl) _ _ _ _ _)).bel
      | some note =>
        have hnl := (unq_some.1 hq).2
        have kU2 : Calls Tryz.prog 26 #[.string (s.extract (k + 1) s.size)] w3 fun e w' => e = .returned (.tuple #[.string V, .int .i64 0]) ∧ Below w3.heap.size w3 w' := kU.mono fun e w' h => by
          obtain ⟨h1, h2⟩ := h
          refine ⟨?_, h2⟩
          rw [h1, hV]; unfold lgUnqE; rw [hq]; rfl
        have hVn : V = bs note := by rw [hV]; unfold lgUnqV; rw [hq]; rfl
        by_cases hne : note = []
        · have hno : entB T = none := by rw [← entP_eq]; unfold entP; rw [hnp, hq]; simp only; rw [if_pos ⟨by rw [← H.out.2.2.2.2.1]; exact h0, hne⟩]
          have hve : V.toList.isEmpty = true := by rw [hVn, bs_empty]; exact decide_eq_true hne
          have HU := Lib.hid (And.intro kU2 hno)
          clear kU kU2 hno hV hq hsp hx hx0 hhd hnp hVn hnl
          go_upto_region 6 with (go_at_call 26; refine HU.out.1.mono ?_; rintro e W4 ⟨rfl, b4⟩; have h4 := H.out.2.1.below b4; have H4 := Lib.hid h4; clear h4 b4)
          have hr4 := H4.out.heap 0 rfl
          have r0 := (cell_of_heap hr4 0).trans rfl
          have r1 := (cell_of_heap hr4 1).trans rfl
          have r2 := (cell_of_heap hr4 2).trans rfl
          have r3 := (cell_of_heap hr4 3).trans rfl
          have r4 := (cell_of_heap hr4 4).trans rfl
          have fr0 := frozen_of_heap hr4 0
          have fr1 := frozen_of_heap hr4 1
          have fr2 := frozen_of_heap hr4 2
          have fr3 := frozen_of_heap hr4 3
          have fr4 := frozen_of_heap hr4 4
          have zr := heap_lt hr4
          clear hr4
          go_wp2_with fail
          refine bodyPost_ret (ent_results rfl (put5_heap (H4.out.heap 0 rfl) _ _ _ _ _) _ _ rfl rfl) rfl ?_
          exact eny_no HU.out.2 (H4.out.set 0 rfl (put5_keep _ _ _ _ _ _ _) (put5_heap (H4.out.heap 0 rfl) _ _ _ _ _)).bel
        · have hve : V.toList.isEmpty = false := by rw [hVn, bs_empty]; exact decide_eq_false hne
          have HU := Lib.hid (And.intro kU2 (And.intro hVn (And.intro hhd (And.intro hnp (And.intro hq (And.intro hnl (And.intro hne hx0)))))))
          clear kU kU2 hV hq hsp hx hx0 hhd hnp hVn hnl hne
          go_upto_region 7 with (go_at_call 26; refine HU.out.1.mono ?_; rintro e W4 ⟨rfl, b4⟩; have h4 := H.out.2.1.below b4; have H4 := Lib.hid h4; clear h4 b4)
          have hx4 := H4.out.heap 1 rfl
          have r0 := (cell_of_heap hx4 0).trans rfl
          have r1 := (cell_of_heap hx4 1).trans rfl
          have r2 := (cell_of_heap hx4 2).trans rfl
          have r3 := (cell_of_heap hx4 3).trans rfl
          have r4 := (cell_of_heap hx4 4).trans rfl
          have fr0 := frozen_of_heap hx4 0
          have fr1 := frozen_of_heap hx4 1
          have fr2 := frozen_of_heap hx4 2
          have fr3 := frozen_of_heap hx4 3
          have fr4 := frozen_of_heap hx4 4
          have zr := heap_lt hx4
          clear hx4
          go_region
          go_wp2_with fail
          go_meet
          refine ⟨rfl, note, ?_, ?_, ?_, Nat.le_trans HU.out.2.2.2.2.2.1 (by decide), ?_⟩
          · rw [HU.out.2.2.1, HU.out.2.2.2.2.2.2.2]
          · rw [HU.out.2.2.2.1]; exact HU.out.2.2.2.2.1
          · rintro ⟨_, h2⟩; exact HU.out.2.2.2.2.2.2.1 h2
          · have := H4.out.set 1 rfl ((Keep.refl [xb] W4).setCell (p := ⟨xb, 4, none⟩) (.inl (by simp)) (.string V)) (heap_set (H4.out.heap 1 rfl) 4 _)
            have h5 := this.drew
            rw [HU.out.2.1] at h5 ⊢
            exact h5
    · go_wp2_with fail
      go_meet
      refine ⟨rfl, [], ?_, ?_, ?_, by simp, H.out.2.1⟩
      · have hhd : headP T = T := by unfold headP; rw [← H.out.2.2.2.2.1, if_neg (by omega)]
        rw [hhd, H.out.1, bs_eta]
      · unfold noteP; rw [← H.out.2.2.2.2.1, if_neg (by omega)]
      · rintro ⟨h1, _⟩; omega
  case rest =>
  obtain ⟨rfl, note, rfl, h1, h2, h3, h4⟩ := hcut
  obtain ⟨wz, rfl, h4⟩ : ∃ wz, wz = _ ∧ Own w.heap.size w [.blk rb (eC 0 0 ⟨#[]⟩ none 0 0 ⟨#[]⟩), .blk xb (eC 0 0 ⟨#[]⟩ none 0 0 (bs note))] wz := ⟨_, rfl, h4⟩
  apply_assumption
  obtain ⟨F, hF⟩ : ∃ F, F = fields (headP T) := ⟨_, rfl⟩
  obtain ⟨S, hS⟩ : ∃ S, S = bs (headP T) := ⟨_, rfl⟩
  obtain ⟨n, hn⟩ : ∃ n, n = F.length := ⟨_, rfl⟩
  obtain ⟨N, hN⟩ : ∃ N, N = bs note := ⟨_, rfl⟩
  have hTl : T.length ≤ 1000000 := by have := H.out.2.2.2.2.2.1; rw [← H.out.1] at this; omega
  have hhl : (headP T).length ≤ 1000000 := by unfold headP; split; (rw [List.length_take]; omega); exact hTl
  have zS : S.size ≤ 1000000 := by rw [hS, bs_size]; exact hhl
  have hnl : n ≤ 1000001 := by rw [hn, hF]; have := fields_len (headP T); omega
  have hFl : ∀ f ∈ F, f.length ≤ 1000000 := fun f hf => by
    have h5 : (joinS F).length = (headP T).length := by rw [hF, join_fields]
    have key : ∀ (l : List By), ∀ f ∈ l, f.length ≤ (joinS l).length := by
      intro l
      induction l with
      | nil => intro f hf; cases hf
      | cons a l ih =>
        intro f hf
        cases l with
        | nil => simp at hf; subst hf; exact Nat.le_refl _
        | cons b l =>
          rw [Lg.join_cons (by simp), List.length_append, List.length_cons]
          rcases List.mem_cons.1 hf with rfl | hf
          · omega
          · have := ih f hf; omega
    have := key F f hf
    omega
  rw [← hN] at h4
  obtain ⟨lb, hlb⟩ : ∃ b, b = wz.heap.size := ⟨_, rfl⟩
  have kS : Calls Tryz.prog 126 #[.string S, .string ⟨#[32]⟩] wz fun e w' => e = .returned (.slice (some ⟨lb, 0, none⟩) n n) ∧ w' = wz.alloc (.cells (strs F).toArray 9) := by
    obtain ⟨m0, hm0⟩ := (Env.below H.out.2.2.1 h4.bel).1
    have h5 := Tryz.strings_Split S ⟨#[32]⟩ m0 wz (by omega) hm0 (by decide)
    obtain ⟨h6, h7⟩ := split_all (headP T).length (headP T) (Nat.le_refl _)
    rw [← hF] at h6 h7
    rw [show S = bsJ (headP T) from hS, show (⟨#[32]⟩ : ByteArray) = bsJ [32] from rfl, h6, h7, ← hn, ← hlb, show bsJ (headP T) = S from hS.symm, show bsJ [32] = (⟨#[32]⟩ : ByteArray) from rfl] at h5
    refine h5.mono ?_
    rintro e w' ⟨rfl, rfl⟩
    refine ⟨rfl, ?_⟩
    rw [List.map_map]
    rfl
  rw [← hS]
  have Hz := Lib.hid (And.intro h1 (And.intro h2 (And.intro h3 (And.intro h4 (And.intro hF (And.intro hn (And.intro hN (And.intro hTl (And.intro hFl (And.intro kS hlb))))))))))
  clear h1 h2 h3 h4 hF hn hN hTl hhl hFl kS hS hlb
  go_upto_region 9 with (go_at_call 126; refine Hz.out.2.2.2.2.2.2.2.2.2.1.mono ?_; rintro e Wl ⟨rfl, rfl⟩)
  obtain ⟨Wl, hWl⟩ : ∃ W, W = wz.alloc (.cells (strs F).toArray 9) := ⟨_, rfl⟩
  have O5 : Own w.heap.size w [.blk rb (eC 0 0 ⟨#[]⟩ none 0 0 ⟨#[]⟩), .blk xb (eC 0 0 ⟨#[]⟩ none 0 0 N), .blk lb (.cells (strs F).toArray 9)] Wl := by
    have := Hz.out.2.2.2.1.alloc (.cells (strs F).toArray 9)
    rw [hWl, Hz.out.2.2.2.2.2.2.2.2.2.2]; exact this
  have H5 := Lib.hid O5
  rw [← hWl]
  clear hWl O5
  by_cases hin : 3 ≤ n ∧ n ≤ 7
  · have hb : inB n 3 7 = true := by unfold inB; simp; omega
    go_upto_region 11 with (go_at_call 109; refine (in_any _ _ _ _).mono ?_; rintro e w6 ⟨rfl, rfl⟩)
    have hFn := Hz.out.2.2.2.2.2.1
    have h2F : 2 < F.length := by omega
    obtain ⟨V2, hV2⟩ : ∃ V, V = bs (F.getD 2 []) := ⟨_, rfl⟩
    have hgd : F.getD 2 [] = F[2] := by simp [h2F]
    have hlh := H5.out.heap 2 rfl
    have l2 : Wl.cell? ⟨lb, 2, none⟩ = some (.string V2) := (cell_of_heap hlh 2).trans (by rw [hV2, hgd]; simp [strs, h2F])
    have zl := heap_lt hlh
    have hx5 := H5.out.heap 1 rfl
    have x0 := (cell_of_heap hx5 0).trans rfl
    have x1 := (cell_of_heap hx5 1).trans rfl
    have x2 := (cell_of_heap hx5 2).trans rfl
    have x3 := (cell_of_heap hx5 3).trans rfl
    have x4 := (cell_of_heap hx5 4).trans rfl
    have fx0 := frozen_of_heap hx5 0
    have fx1 := frozen_of_heap hx5 1
    have fx2 := frozen_of_heap hx5 2
    have fx3 := frozen_of_heap hx5 3
    have fx4 := frozen_of_heap hx5 4
    have zx := heap_lt hx5
    have HV2 := Lib.hid (And.intro hV2 hgd)
    clear hx5 hlh hV2 hgd hFn
    go_upto_region 13 with fail
    obtain ⟨W6, hW6⟩ : ∃ W, W = Wl.setCell ⟨xb, 2, none⟩ (.string V2) := ⟨_, rfl⟩
    have O6 : Own w.heap.size w [.blk rb (eC 0 0 ⟨#[]⟩ none 0 0 ⟨#[]⟩), .blk xb (eC 0 0 V2 none 0 0 N), .blk lb (.cells (strs F).toArray 9)] W6 := by
      rw [hW6]; exact H5.out.set 1 rfl ((Keep.refl [xb] Wl).setCell (p := ⟨xb, 2, none⟩) (.inl (by simp)) _) (heap_set (H5.out.heap 1 rfl) 2 _)
    rw [← hW6]
    obtain ⟨G, hG⟩ : ∃ G, G = F.eraseIdx 2 := ⟨_, rfl⟩
    obtain ⟨m, hm⟩ : ∃ m, m = n - 1 := ⟨_, rfl⟩
    have hGl : G.length = m := by rw [hG, List.length_eraseIdx, if_pos (by have := Hz.out.2.2.2.2.2.1; omega), hm, Hz.out.2.2.2.2.2.1]
    have hm2 : 2 ≤ m ∧ m ≤ 6 := by omega
    have kD : Calls Tryz.prog 127 #[.slice (some ⟨lb, 0, none⟩) n n, .int .i64 2, .int .i64 3] W6 fun e w' => e = .returned (.slice (some ⟨lb, 0, none⟩) m n) ∧ Own w.heap.size w [.blk rb (eC 0 0 ⟨#[]⟩ none 0 0 ⟨#[]⟩), .blk xb (eC 0 0 V2 none 0 0 N), .own 9 1 (some ⟨lb, 0, none⟩) m n (strs G) [lb], .own 3 1 none 0 0 [] []] w' := by
      have hh := O6.heap 2 rfl
      have hFn := Hz.out.2.2.2.2.2.1
      have h5 := Tryz.slices_Delete_string_cells lb 0 n n 2 3 (fun i => bs (F.getD i [])) W6 (Nat.le_refl _) (by omega) (by omega) (by omega) (fun i hi => by
        rw [Nat.zero_add]
        refine (cell_of_heap hh i).trans ?_
        have hi2 : i < F.length := by omega
        simp [strs, hi2]) (fun j _ => by rw [Nat.zero_add]; exact frozen_of_heap hh j)
      refine h5.mono ?_
      rintro e w' ⟨rfl, q, rfl⟩
      refine ⟨by rw [hm], ?_⟩
      have hsf : Lib.strsOf (fun i => bs (F.getD i [])) n = F := by
        unfold Lib.strsOf
        apply List.ext_getElem
        · simp [hFn]
        · intro i h1 h2
          simp [h2]
      rw [hsf]
      obtain ⟨cs', g1, g2, g3, g4⟩ := heap_sets ((F.take 2 ++ F.drop 3 ++ List.replicate (3 - 2) []).map encStr) 0 (W6.drewN q) (strs F).toArray hh
      have hk := (((Keep.refl [lb] W6).drewN q).trans (keep_sets lb ((F.take 2 ++ F.drop 3 ++ List.replicate (3 - 2) []).map encStr) 0 (W6.drewN q)) (fun x hx => .inl hx))
      have hsz : (strs F).toArray.size = n := by simp [strs, hFn]
      have U := O6.upd 2 rfl (i' := It.own 9 1 (some ⟨lb, 0, none⟩) m n (strs G) [lb]) hk ⟨by simp [strs, hGl], .inr ⟨lb, cs', rfl, rfl, g1, by omega, by omega, by rw [g2, hsz, Nat.mul_one], fun j u hu => by
        have hj : j < G.length := by
          have := (List.getElem?_eq_some_iff.1 hu).1
          simpa [strs] using this
        have := g4 j u (by
          have e : G = F.take 2 ++ F.drop 3 := by rw [hG, List.eraseIdx_eq_take_drop_succ]
          rw [List.map_append, List.getElem?_append_left (by rw [← e]; simpa using hj), ← e]
          exact hu) (by rw [hsz]; omega)
        rwa [Nat.zero_add] at this⟩⟩ (fun x hx => .inl hx)
      have := U.new (i := .own 3 1 none 0 0 [] []) (Below.refl _ _) (OwnS.nil _ _ _) (by simp [It.fp])
      simpa using this
    have hGs : ∀ f ∈ G, f.length ≤ 1000000 := fun f hf => Hz.out.2.2.2.2.2.2.2.2.1 f (by rw [hG] at hf; exact List.mem_of_mem_eraseIdx hf)
    have HD := Lib.hid (And.intro kD (And.intro hG (And.intro hm (And.intro hGl hGs))))
    clear kD hG hm hGl hGs O6 hW6 x0 fx0 x1 fx1 x2 fx2 x3 fx3 x4 fx4 l2 zl zx
    have hent : ∀ vs, allN G = some vs → entB T = if okE (mkE F vs note) = true then some (mkE F vs note) else none := fun vs hvs => by
      rw [← entP_eq]; unfold entP; rw [Hz.out.1]; simp only
      rw [if_neg (by rw [← H.out.2.2.2.2.1]; exact Hz.out.2.1), ← Hz.out.2.2.2.2.1, ← Hz.out.2.2.2.2.2.1, if_pos hin, ← HD.out.2.1, hvs]
    have hent0 : allN G = none → entB T = none := fun hvs => by
      rw [← entP_eq]; unfold entP; rw [Hz.out.1]; simp only
      rw [if_neg (by rw [← H.out.2.2.2.2.1]; exact Hz.out.2.1), ← Hz.out.2.2.2.2.1, ← Hz.out.2.2.2.2.2.1, if_pos hin, ← HD.out.2.1, hvs]
    have HE := Lib.hid (And.intro hent hent0)
    clear hent hent0
    go_wp2_with (go_at_call 127; refine HD.out.1.mono ?_; rintro e w7 ⟨rfl, o7⟩; have H7 := Lib.hid o7; clear o7)
    go_loopg [9, 52] m (fun g o i wr => ∃ (k : Nat) (B : Option Addr) (d : Nat) (q vs : List Nat), g + k = m ∧ i = .int .i64 k ∧ o = .slice B k d ∧ allN (G.take k) = some vs ∧ Own w.heap.size w [.blk rb (eC 0 0 ⟨#[]⟩ none 0 0 ⟨#[]⟩), .blk xb (eC 0 0 V2 none 0 0 N), .own 9 1 (some ⟨lb, 0, none⟩) m n (strs G) [lb], .own 3 1 B k d (ints (vs.map Int.ofNat)) q] wr)
    case atStart => exact ⟨0, none, 0, [], [], rfl, rfl, rfl, rfl, H7.out⟩
    case round =>
      obtain ⟨k, B, d, q, vs, hk, rfl, rfl, hvs, oo⟩ := hrel
      by_cases hlt : k < m
      · have hkG : k < G.length := by have := HD.out.2.2.2.1; omega
        obtain ⟨f, hf⟩ : ∃ f, f = G[k] := ⟨_, rfl⟩
        obtain ⟨fb, hfb⟩ : ∃ b, b = bs f := ⟨_, rfl⟩
        obtain ⟨g0, cur, e1, _, hh, _, _, _, hcu⟩ := (oo.owns 2 rfl).2.resolve_left (by rintro ⟨h, _⟩; cases h)
        cases e1
        have c0 : wr.cell? ⟨lb, k, none⟩ = some (.string fb) := (cell_of_heap hh k).trans (hcu k _ (by simp [strs, hkG, hf, hfb]))
        have zl := heap_lt hh
        have kn := gNumber_any fb wr (by rw [hfb, bs_size]; exact HD.out.2.2.2.2 f (by rw [hf]; exact List.getElem_mem _))
        rw [show fb.data.toList = f from by rw [hfb]] at kn
        have hsn := allN_snoc (G.take k) f
        rw [hf, ← List.take_succ_eq_append_getElem hkG, ← hf, hvs] at hsn
        cases hnf : numB f with
        | none =>
          have hno : allN G = none := by
            rw [hnf] at hsn
            have key : ∀ (l : List By) (j : Nat), allN (l.take j) = none → allN l = none := by
              intro l
              induction l with
              | nil => intro j h; simpa using h
              | cons a l ih =>
                intro j h
                cases j with
                | zero => cases h
                | succ j =>
                  rw [List.take_succ_cons, allN] at h
                  rw [allN]
                  cases h1 : numB a with
                  | none => rfl
                  | some v =>
                    rw [h1] at h
                    cases h2 : allN (l.take j) with
                    | none => rw [ih j h2]
                    | some w => rw [h2] at h; cases h
            exact key G (k + 1) hsn
          obtain ⟨n1, n2, _⟩ := num_none hnf
          rw [n1, n2] at kn
          have HN := Lib.hid (And.intro oo (And.intro kn (HE.out.2 hno)))
          have hr4 := oo.heap 0 rfl
          have r0 := (cell_of_heap hr4 0).trans rfl
          have r1 := (cell_of_heap hr4 1).trans rfl
          have r2 := (cell_of_heap hr4 2).trans rfl
          have r3 := (cell_of_heap hr4 3).trans rfl
          have r4 := (cell_of_heap hr4 4).trans rfl
          have fr0 := frozen_of_heap hr4 0
          have fr1 := frozen_of_heap hr4 1
          have fr2 := frozen_of_heap hr4 2
          have fr3 := frozen_of_heap hr4 3
          have fr4 := frozen_of_heap hr4 4
          have zr := heap_lt hr4
          clear hr4 oo kn hno hsn hnf hh hcu hf hfb hvs n1 n2
          go_wp2_with (go_at_call 125; refine HN.out.2.1.mono ?_; rintro e w8 ⟨rfl, rfl⟩)
          refine bodyPost_ret (ent_results rfl (put5_heap (HN.out.1.heap 0 rfl) _ _ _ _ _) _ _ rfl rfl) rfl ?_
          exact eny_no HN.out.2.2 (HN.out.1.set 0 rfl (put5_keep _ _ _ _ _ _ _) (put5_heap (HN.out.1.heap 0 rfl) _ _ _ _ _)).bel
        | some v =>
          obtain ⟨n1, n2, _⟩ := num_some hnf
          rw [n1, n2] at kn
          rw [hnf] at hsn
          have HN := Lib.hid (And.intro oo (And.intro kn hsn))
          clear oo kn hsn hnf hh hcu hf hfb hvs n1 n2
          go_wp2_with (first
            | (go_at_call 125; refine HN.out.2.1.mono ?_; rintro e w8 ⟨rfl, rfl⟩)
            | (at_builtin
               refine wpList_append_S (size := 1) rfl (.tmp 64) (.tmp 66) 24 rfl iI _ 8 Tryz.underlying24 hI0 hI1 hI2 (by decide) hI3 rfl (A := B) (n := k) (c := d) (xs := ints (vs.map Int.ofNat)) (fp := q) (by simp [Act.eval]) ⟨wr.heap.size, 0, none⟩ (by simp [Act.eval]) [Value.int .i64 (v : Nat)] (((HN.out.1).below ((Below.refl _ _).alloc (Nat.le_refl _) _)).get 3 rfl) rfl ?_ (by intro u hu; simp at hu; rcases hu with rfl; rfl) (by omega) (by decide) ?_
               · intro u v hv
                 rw [show (⟨wr.heap.size, 0, none⟩ : Addr).add u = ⟨wr.heap.size, u, none⟩ from by simp [Addr.add]; omega, World.cell?_alloc_new]
                 simpa using hv
               intro g c' w5 q1 q2 q3 q4
               have SB := ((HN.out.1).below ((Below.refl _ _).alloc (Nat.le_refl _) (.cells #[Value.int .i64 (v : Nat)] 3))).upd 3 rfl (i' := It.own 3 1 (some ⟨g, 0, none⟩) (k + 1) c' (ints (vs.map Int.ofNat) ++ [Value.int .i64 (v : Nat)]) [g]) q4 q1 (fun u hu => by rw [List.mem_singleton.1 hu]; rcases q2 with e | e; exact .inl e; exact .inr (Nat.le_of_eq e))
               have HQ := Lib.hid SB
               clear SB q1 q2 q3 q4))
          go_roundg (gk - 1)
          case measure => omega
          case rel =>
            refine ⟨k + 1, some ⟨g, 0, none⟩, c', [g], vs ++ [v], by omega, by go_num, rfl, HN.out.2.2, ?_⟩
            have := HQ.out
            rw [show ints (vs.map Int.ofNat) ++ [Value.int .i64 v] = ints ((vs ++ [v]).map Int.ofNat) from by simp [ints]] at this
            exact this
      · obtain rfl : k = m := by omega
        rw [List.take_of_length_le (by have := HD.out.2.2.2.1; omega)] at hvs
        have hvl : vs.length = k := by rw [allN_len hvs]; exact HD.out.2.2.2.1
        obtain ⟨g, cur, rfl, rfl, hh, hd1, hd2, hd3, hcu⟩ := (oo.owns 3 rfl).2.resolve_left (by rintro ⟨_, h, _⟩; omega)
        obtain ⟨i0, hi0⟩ : ∃ i, i = (vs.getD 0 0 : Nat) := ⟨_, rfl⟩
        obtain ⟨i1, hi1⟩ : ∃ i, i = (vs.getD 1 0 : Nat) := ⟨_, rfl⟩
        have n0 : wr.cell? ⟨g, 0, none⟩ = some (.int .i64 i0) := (cell_of_heap hh 0).trans (hcu 0 _ (by rw [hi0]; exact intsN_get (by omega)))
        have n1 : wr.cell? ⟨g, 1, none⟩ = some (.int .i64 i1) := (cell_of_heap hh 1).trans (hcu 1 _ (by rw [hi1]; exact intsN_get (by omega)))
        have zg := heap_lt hh
        have hx7 := oo.heap 1 rfl
        have hgx : g ≠ xb := fun e => oo.ne 3 1 rfl rfl (by decide) (x := g) (y := xb) (by simp [It.fp]) (by simp [It.fp]) e
        have hgr : g ≠ rb := fun e => oo.ne 3 0 rfl rfl (by decide) (x := g) (y := rb) (by simp [It.fp]) (by simp [It.fp]) e
        have x0 := (cell_of_heap hx7 0).trans rfl
        have x1 := (cell_of_heap hx7 1).trans rfl
        have x2 := (cell_of_heap hx7 2).trans rfl
        have x3 := (cell_of_heap hx7 3).trans rfl
        have x4 := (cell_of_heap hx7 4).trans rfl
        have fx0 := frozen_of_heap hx7 0
        have fx1 := frozen_of_heap hx7 1
        have fx2 := frozen_of_heap hx7 2
        have fx3 := frozen_of_heap hx7 3
        have fx4 := frozen_of_heap hx7 4
        have zx := heap_lt hx7
        have HV := Lib.hid (And.intro oo (And.intro hvs (And.intro hvl (And.intro hi0 (And.intro hi1 (And.intro hgx hgr))))))
        clear oo hvs hvl hi0 hi1 hh hcu hgr hx7
        go_upto_region 21 with fail
        go_region
        have O8 : Own w.heap.size w [.blk rb (eC 0 0 ⟨#[]⟩ none 0 0 ⟨#[]⟩), .blk xb (eC i0 i1 V2 none 0 0 N), .own 9 1 (some ⟨lb, 0, none⟩) k n (strs G) [lb], .own 3 1 (some ⟨g, 0, none⟩) k d (ints (vs.map Int.ofNat)) [g]] ((wr.setCell ⟨xb, 0, none⟩ (.int .i64 i0)).setCell ⟨xb, 1, none⟩ (.int .i64 i1)).drew :=
          (HV.out.1.set 1 rfl (((Keep.refl [xb] wr).setCell (p := ⟨xb, 0, none⟩) (.inl (by simp)) (.int .i64 i0)).setCell (p := ⟨xb, 1, none⟩) (.inl (by simp)) (.int .i64 i1)) (heap_set (heap_set (HV.out.1.heap 1 rfl) 0 _) 1 _)).drew
        obtain ⟨W8, hW8⟩ : ∃ W, W = ((wr.setCell ⟨xb, 0, none⟩ (.int .i64 i0)).setCell ⟨xb, 1, none⟩ (.int .i64 i1)).drew := ⟨_, rfl⟩
        rw [← hW8] at O8 ⊢
        have H8 := Lib.hid O8
        clear O8 hW8 x0 fx0 x1 fx1 x2 fx2 x3 fx3 x4 fx4 zx n0 n1
        have hx8 := H8.out.heap 1 rfl
        have x0 := (cell_of_heap hx8 0).trans rfl
        have x1 := (cell_of_heap hx8 1).trans rfl
        have x2 := (cell_of_heap hx8 2).trans rfl
        have x3 := (cell_of_heap hx8 3).trans rfl
        have x4 := (cell_of_heap hx8 4).trans rfl
        have fx0 := frozen_of_heap hx8 0
        have fx1 := frozen_of_heap hx8 1
        have fx2 := frozen_of_heap hx8 2
        have fx3 := frozen_of_heap hx8 3
        have fx4 := frozen_of_heap hx8 4
        have zx := heap_lt hx8
        clear hx8
        obtain ⟨y, hy⟩ : ∃ y, y = mkE F vs note := ⟨_, rfl⟩
        have hya : y.args.length = k - 2 := by rw [hy]; simp [mkE, HV.out.2.2.1]
        have hyC : ∀ A c, entC y A c = #[.int .i64 i0, .int .i64 i1, .string V2, .slice A (k - 2 : Nat) c, .string N] := fun A c => by
          unfold entC
          rw [hya, hy]
          unfold mkE
          rw [HV.out.2.2.2.1, HV.out.2.2.2.2.1, HV2.out.1, Hz.out.2.2.2.2.2.2.1]
        have hyR : ∀ W, OwnS W 3 1 (some ⟨g, 0, none⟩) k d (ints (vs.map Int.ofNat)) [g] → Rd W 1 (some ⟨g, 2, none⟩) (k - 2) (ints y.args) := fun W hW => by
          refine ⟨by rw [Nat.mul_one]; simp [ints, hya], fun _ => ⟨g, 2, rfl, hW.lt g (by simp), fun j u hu => ?_⟩⟩
          obtain ⟨g', cur', e1, _, hh', _, _, _, hcu'⟩ := hW.2.resolve_left (by rintro ⟨h, _⟩; cases h)
          cases e1
          refine (cell_of_heap hh' _).trans (hcu' (2 + j) u ?_)
          rw [hy] at hu
          unfold mkE at hu
          simp only [ints, List.getElem?_map, List.getElem?_drop] at hu ⊢
          exact hu
        have hyE := HE.out.1 vs HV.out.2.1
        rw [← hy] at hyE
        have hyv : y.verb.length ≤ 1000000 := by
          rw [hy]
          unfold mkE
          simp only
          rw [HV2.out.2]
          exact Hz.out.2.2.2.2.2.2.2.2.1 _ (List.getElem_mem _)
        have hyn : y.note.length ≤ 1000000 := by rw [hy]; exact Hz.out.2.2.1
        have HY := Lib.hid (And.intro hya (And.intro hyC (And.intro hyR (And.intro hyE (And.intro hyv hyn)))))
        clear hya hyC hyR hyE hyv hyn hy
        by_cases hk2 : 2 < k
        · go_upto_region 24 with fail
          obtain ⟨W9, hW9⟩ : ∃ W, W = W8.setCell ⟨xb, 3, none⟩ (.slice (some ⟨g, 2, none⟩) (k - 2) (d - 2)) := ⟨_, rfl⟩
          have O9 : Own w.heap.size w [.blk rb (eC 0 0 ⟨#[]⟩ none 0 0 ⟨#[]⟩), .blk xb (eC i0 i1 V2 (some ⟨g, 2, none⟩) (k - 2) (d - 2) N), .own 9 1 (some ⟨lb, 0, none⟩) k n (strs G) [lb], .own 3 1 (some ⟨g, 0, none⟩) k d (ints (vs.map Int.ofNat)) [g]] W9 := by
            rw [hW9]; exact H8.out.set 1 rfl ((Keep.refl [xb] W8).setCell (p := ⟨xb, 3, none⟩) (.inl (by simp)) _) (heap_set (H8.out.heap 1 rfl) 3 _)
          rw [← hW9]
          have hyA : Rd W9 1 (some ⟨g, 2, none⟩) y.args.length (ints y.args) := by rw [HY.out.1]; exact HY.out.2.2.1 W9 (O9.owns 3 rfl)
          have hr9 := O9.heap 0 rfl
          have HX2 : xb ≠ rb := by rw [HX.out]; omega
          have hx9 := O9.heap 1 rfl
          have hyB : ∀ b off, some (⟨g, 2, none⟩ : Addr) = some ⟨b, off, none⟩ → b ∉ [rb] := fun b off e => by cases e; simpa using HV.out.2.2.2.2.2.2
          have hyc := HY.out.2.1 (some ⟨g, 2, none⟩) (d - 2)
          obtain ⟨er, her⟩ : ∃ e, e = ckE y := ⟨_, rfl⟩
          have kc : ∀ w', StE rb W9 w' → Calls Tryz.prog 62 #[.agg #[.int .i64 i0, .int .i64 i1, .string V2, .slice (some ⟨g, 2, none⟩) (k - 2) (d - 2), .string N]] w' fun e w2 => e = .returned (.int .i64 er) ∧ StE rb W9 w2 := fun w' hb => by
            have h := gCheckX_any y (some ⟨g, 2, none⟩) (d - 2) w' (hb.1.rd hyA hyB) HY.out.2.2.2.2.1 HY.out.2.2.2.2.2 (by have := HY.out.1; omega)
            rw [hyc, ← her] at h
            exact h.mono fun e w2 h => ⟨h.1, hb.below h.2⟩
          have KX : ∀ {o : Nat} {u : Value}, W9.cell? ⟨xb, o, none⟩ = some u → ∀ w', StE rb W9 w' → w'.cell? ⟨xb, o, none⟩ = some u := fun h w' hB => hB.1.cell h (by simpa using HX2)
          have y0 := KX ((cell_of_heap hx9 0).trans rfl)
          have y1 := KX ((cell_of_heap hx9 1).trans rfl)
          have y2 := KX ((cell_of_heap hx9 2).trans rfl)
          have y3 := KX ((cell_of_heap hx9 3).trans rfl)
          have y4 := KX ((cell_of_heap hx9 4).trans rfl)
          have r0 := fun w' (hB : StE rb W9 w') => hB.cel (j := 0) (by decide)
          have r1 := fun w' (hB : StE rb W9 w') => hB.cel (j := 1) (by decide)
          have r2 := fun w' (hB : StE rb W9 w') => hB.cel (j := 2) (by decide)
          have r3 := fun w' (hB : StE rb W9 w') => hB.cel (j := 3) (by decide)
          have r4 := fun w' (hB : StE rb W9 w') => hB.cel (j := 4) (by decide)
          have fr0 := fun w' (hB : StE rb W9 w') => hB.frz 0
          have fr1 := fun w' (hB : StE rb W9 w') => hB.frz 1
          have fr2 := fun w' (hB : StE rb W9 w') => hB.frz 2
          have fr3 := fun w' (hB : StE rb W9 w') => hB.frz 3
          have fr4 := fun w' (hB : StE rb W9 w') => hB.frz 4
          have zx9 := heap_lt hx9
          have zr9 := heap_lt hr9
          have H9 := Lib.hid (And.intro O9 (And.intro hyA (And.intro hyc (And.intro kc (And.intro hyB (And.intro her (StE.start hr9)))))))
          clear O9 hyA hyc kc her KX hr9 hx9 hW9 hyB HX2 x0 fx0 x1 fx1 x2 fx2 x3 fx3 x4 fx4 zx
          have S0 := H9.out.2.2.2.2.2.2
          go_region_held3 (fun w' => StE rb W9 w') (first | assumption | exact StE.put (by assumption) _ _ _ _ _)
            (first
              | (go_at_call 62
                 refine (H9.out.2.2.2.1 _ S0).mono ?_
                 rintro e wa ⟨rfl, ba⟩))
          obtain ⟨bk, u0, u1, u2, u3, u4, bh⟩ := ba
          have HB := Lib.hid (And.intro bk bh)
          clear bk bh y0 y1 y2 y3 y4 r0 r1 r2 r3 r4 fr0 fr1 fr2 fr3 fr4 S0
          go_wp2_with fail
          refine bodyPost_ret (ent_results rfl (put5_heap HB.out.2 _ _ _ _ _) _ _ rfl rfl) rfl ?_
          have kf := HB.out.1.trans (put5_keep wa rb (.int .i64 i0) (.int .i64 i1) (.string V2) (.slice (some ⟨g, 2, none⟩) (k - 2) (d - 2)) (.string N)) (fun _ hx => .inl hx)
          have bf := H9.out.1.bel.trans (kf.below (B := w.heap.size) H9.out.1.lo (fun x hx => by rw [List.mem_singleton.1 hx]; exact H9.out.1.ge 0 rfl (by simp [It.fp])))
          refine ⟨y, some ⟨g, 2, none⟩, d - 2, ?_, bf, ?_⟩
          · rw [H9.out.2.2.1, HY.out.2.2.2.1]
            show Ending.returned (.tuple #[_, .bool (er == 0)]) = _
            rw [H9.out.2.2.2.2.2.1]
            unfold ckE
            by_cases hok : okE y = true
            · rw [if_pos hok, if_pos hok]; rfl
            · rw [if_neg hok, if_neg hok]; rfl
          · intro z hz
            rw [HY.out.2.2.2.1] at hz
            split at hz
            · injection hz with hz
              subst hz
              exact ⟨rfl, kf.rd H9.out.2.1 H9.out.2.2.2.2.1, fun b off e => by cases e; exact H9.out.1.ge 3 rfl (by simp [It.fp])⟩
            · cases hz
        · go_upto_region 24 with fail
          obtain ⟨W9, hW9⟩ : ∃ W, W = W8 := ⟨_, rfl⟩
          have O9 : Own w.heap.size w [.blk rb (eC 0 0 ⟨#[]⟩ none 0 0 ⟨#[]⟩), .blk xb (eC i0 i1 V2 none 0 0 N), .own 9 1 (some ⟨lb, 0, none⟩) k n (strs G) [lb], .own 3 1 (some ⟨g, 0, none⟩) k d (ints (vs.map Int.ofNat)) [g]] W9 := by
            rw [hW9]; exact H8.out
          rw [← hW9]
          have hyA : Rd W9 1 none y.args.length (ints y.args) := ⟨by simp [ints], fun h => by have := HY.out.1; omega⟩
          have hr9 := O9.heap 0 rfl
          have HX2 : xb ≠ rb := by rw [HX.out]; omega
          have hx9 := O9.heap 1 rfl
          have hyB : ∀ b off, (none : Option Addr) = some ⟨b, off, none⟩ → b ∉ [rb] := fun b off e => by cases e
          have hyc := HY.out.2.1 (none) (0)
          rw [show k - 2 = 0 from by omega] at hyc
          obtain ⟨er, her⟩ : ∃ e, e = ckE y := ⟨_, rfl⟩
          have kc : ∀ w', StE rb W9 w' → Calls Tryz.prog 62 #[.agg #[.int .i64 i0, .int .i64 i1, .string V2, .slice (none) 0 (0), .string N]] w' fun e w2 => e = .returned (.int .i64 er) ∧ StE rb W9 w2 := fun w' hb => by
            have h := gCheckX_any y (none) (0) w' (hb.1.rd hyA hyB) HY.out.2.2.2.2.1 HY.out.2.2.2.2.2 (by have := HY.out.1; omega)
            rw [hyc, ← her] at h
            exact h.mono fun e w2 h => ⟨h.1, hb.below h.2⟩
          have KX : ∀ {o : Nat} {u : Value}, W9.cell? ⟨xb, o, none⟩ = some u → ∀ w', StE rb W9 w' → w'.cell? ⟨xb, o, none⟩ = some u := fun h w' hB => hB.1.cell h (by simpa using HX2)
          have y0 := KX ((cell_of_heap hx9 0).trans rfl)
          have y1 := KX ((cell_of_heap hx9 1).trans rfl)
          have y2 := KX ((cell_of_heap hx9 2).trans rfl)
          have y3 := KX ((cell_of_heap hx9 3).trans rfl)
          have y4 := KX ((cell_of_heap hx9 4).trans rfl)
          have r0 := fun w' (hB : StE rb W9 w') => hB.cel (j := 0) (by decide)
          have r1 := fun w' (hB : StE rb W9 w') => hB.cel (j := 1) (by decide)
          have r2 := fun w' (hB : StE rb W9 w') => hB.cel (j := 2) (by decide)
          have r3 := fun w' (hB : StE rb W9 w') => hB.cel (j := 3) (by decide)
          have r4 := fun w' (hB : StE rb W9 w') => hB.cel (j := 4) (by decide)
          have fr0 := fun w' (hB : StE rb W9 w') => hB.frz 0
          have fr1 := fun w' (hB : StE rb W9 w') => hB.frz 1
          have fr2 := fun w' (hB : StE rb W9 w') => hB.frz 2
          have fr3 := fun w' (hB : StE rb W9 w') => hB.frz 3
          have fr4 := fun w' (hB : StE rb W9 w') => hB.frz 4
          have zx9 := heap_lt hx9
          have zr9 := heap_lt hr9
          have H9 := Lib.hid (And.intro O9 (And.intro hyA (And.intro hyc (And.intro kc (And.intro hyB (And.intro her (StE.start hr9)))))))
          clear O9 hyA hyc kc her KX hr9 hx9 hW9 hyB HX2 x0 fx0 x1 fx1 x2 fx2 x3 fx3 x4 fx4 zx
          have S0 := H9.out.2.2.2.2.2.2
          go_region_held3 (fun w' => StE rb W9 w') (first | assumption | exact StE.put (by assumption) _ _ _ _ _)
            (first
              | (go_at_call 62
                 refine (H9.out.2.2.2.1 _ S0).mono ?_
                 rintro e wa ⟨rfl, ba⟩))
          obtain ⟨bk, u0, u1, u2, u3, u4, bh⟩ := ba
          have HB := Lib.hid (And.intro bk bh)
          clear bk bh y0 y1 y2 y3 y4 r0 r1 r2 r3 r4 fr0 fr1 fr2 fr3 fr4 S0
          go_wp2_with fail
          refine bodyPost_ret (ent_results rfl (put5_heap HB.out.2 _ _ _ _ _) _ _ rfl rfl) rfl ?_
          have kf := HB.out.1.trans (put5_keep wa rb (.int .i64 i0) (.int .i64 i1) (.string V2) (.slice none 0 0) (.string N)) (fun _ hx => .inl hx)
          have bf := H9.out.1.bel.trans (kf.below (B := w.heap.size) H9.out.1.lo (fun x hx => by rw [List.mem_singleton.1 hx]; exact H9.out.1.ge 0 rfl (by simp [It.fp])))
          refine ⟨y, none, 0, ?_, bf, ?_⟩
          · rw [H9.out.2.2.1, HY.out.2.2.2.1]
            show Ending.returned (.tuple #[_, .bool (er == 0)]) = _
            rw [H9.out.2.2.2.2.2.1]
            unfold ckE
            by_cases hok : okE y = true
            · rw [if_pos hok, if_pos hok]; rfl
            · rw [if_neg hok, if_neg hok]; rfl
          · intro z hz
            rw [HY.out.2.2.2.1] at hz
            split at hz
            · injection hz with hz
              subst hz
              exact ⟨rfl, kf.rd H9.out.2.1 H9.out.2.2.2.2.1, fun b off e => by cases e⟩
            · cases hz
  · have hb : inB n 3 7 = false := by unfold inB; simp; omega
    have hno : entB T = none := by
      rw [← entP_eq]; unfold entP; rw [Hz.out.1]; simp only
      rw [if_neg (by rw [← H.out.2.2.2.2.1]; exact Hz.out.2.1), ← Hz.out.2.2.2.2.1, ← Hz.out.2.2.2.2.2.1, if_neg hin]
    have hr4 := H5.out.heap 0 rfl
    have r0 := (cell_of_heap hr4 0).trans rfl
    have r1 := (cell_of_heap hr4 1).trans rfl
    have r2 := (cell_of_heap hr4 2).trans rfl
    have r3 := (cell_of_heap hr4 3).trans rfl
    have r4 := (cell_of_heap hr4 4).trans rfl
    have fr0 := frozen_of_heap hr4 0
    have fr1 := frozen_of_heap hr4 1
    have fr2 := frozen_of_heap hr4 2
    have fr3 := frozen_of_heap hr4 3
    have fr4 := frozen_of_heap hr4 4
    have zr := heap_lt hr4
    clear hr4
    go_wp2_with (go_at_call 109; refine (in_any _ _ _ _).mono ?_; rintro e w6 ⟨rfl, rfl⟩)
    refine bodyPost_ret (ent_results rfl (put5_heap (H5.out.heap 0 rfl) _ _ _ _ _) _ _ rfl rfl) rfl ?_
    exact eny_no hno (H5.out.set 0 rfl (put5_keep _ _ _ _ _ _ _) (put5_heap (H5.out.heap 0 rfl) _ _ _ _ _)).bel
end Go.Proofs.YtaokegobilphnaaGreatDoor
