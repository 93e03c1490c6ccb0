/- Plain law of layer 13: what the library's Split, Join, Index say of fields; how an entry's content is taken apart. No program is named here. -/
import Derived.Test.YtaokegobilphnaaGreatDoorLLp0
import Derived.Lib.Split
import Derived.Lib.CountLaws
import Derived.Lib.CutLaws
import Derived.Lib.Join
import Derived.Test.YtaokegobilphnaaGreatDoorLLp4
import Derived.RangeFuncNested
import Derived.RangeFuncBound
import Derived.RangeFuncCalls
import Derived.RangeFuncLeaves
import Derived.Shelf.Abstract
import Derived.Shelf.RegionOpen
import Derived.WalkKit
import Derived.OwnWalkIn
import Derived.TacticsInMore
import Derived.LoopNIn
import Derived.LoopIn
import Derived.Test.YtaokegobilphnaaGreatDoorLLp1
set_option linter.unusedVariables false
set_option linter.unusedSimpArgs false
namespace Go.Proofs.YtaokegobilphnaaGreatDoor.Lg
open Go Go.Lib

theorem pre_one (c b : UInt8) (l : By) : [c].isPrefixOf (b :: l) = (c == b) := by simp [List.isPrefixOf]
theorem idx_none {c : UInt8} : ∀ {u : By}, ¬ c ∈ u → index u [c] = -1
  | [], _ => rfl
  | b :: u, h => by
    have h1 : (c == b) = false := by simp; intro e; exact h (by simp [e])
    rw [index, pre_one, h1, idx_none (fun hm => h (by simp [hm]))]
    rfl
theorem idx_at {c : UInt8} {v : By} : ∀ {u : By}, ¬ c ∈ u → index (u ++ c :: v) [c] = u.length
  | [], _ => by rw [List.nil_append, index, pre_one]; simp
  | b :: u, h => by
    have h1 : (c == b) = false := by simp; intro e; exact h (by simp [e])
    rw [List.cons_append, index, pre_one, h1, idx_at (fun hm => h (by simp [hm]))]
    have : (((u.length : Nat) : Int) == -1) = false := by simp
    rw [this]
    simp
def bsJ (l : By) : ByteArray := ⟨l.toArray⟩
theorem bsJ_size (l : By) : (bsJ l).size = l.length := by simp [bsJ, ByteArray.size]
theorem bsJ_ext (l : By) (a b : Nat) : (bsJ l).extract a b = bsJ ((l.drop a).take (b - a)) := by
  apply ByteArray.ext
  apply Array.toList_inj.1
  rw [extract_data]
  rfl
theorem split_one {u : By} (h : ¬ (32 : UInt8) ∈ u) : countB (bsJ u) (bsJ [32]) = 0 ∧ splitB (bsJ [32]) 0 0 (bsJ u) = [bsJ u] := ⟨countB_miss _ _ (idx_none h), rfl⟩
theorem split_cut {u v : By} (h : ¬ (32 : UInt8) ∈ u) : countB (bsJ (u ++ 32 :: v)) (bsJ [32]) = 1 + countB (bsJ v) (bsJ [32]) ∧ ∀ k, splitB (bsJ [32]) 0 (k + 1) (bsJ (u ++ 32 :: v)) = bsJ u :: splitB (bsJ [32]) 0 k (bsJ v) := by
  have hi : indexB (bsJ (u ++ 32 :: v)) (bsJ [32]) = u.length := idx_at h
  have e1 : (bsJ (u ++ 32 :: v)).extract (u.length + (bsJ [32]).size) (bsJ (u ++ 32 :: v)).size = bsJ v := by
    rw [bsJ_ext, bsJ_size, bsJ_size]
    congr 1
    simp
    exact List.take_of_length_le (by omega)
  have e2 : (bsJ (u ++ 32 :: v)).extract 0 (u.length + 0) = bsJ u := by
    rw [bsJ_ext]
    congr 1
    simp
  constructor
  · rw [countB_hit _ _ _ (by rw [bsJ_size]; decide) hi, e1]
  · intro k
    rw [splitB_hit _ _ _ _ _ hi, e1, e2]
theorem split_all : ∀ (k : Nat) (T : By), T.length ≤ k → countB (bsJ T) (bsJ [32]) + 1 = (fields T).length ∧ splitB (bsJ [32]) 0 (countB (bsJ T) (bsJ [32])) (bsJ T) = (fields T).map bsJ := by
  intro k
  induction k with
  | zero =>
    intro T hT
    have : T = [] := List.length_eq_zero_iff.1 (by omega)
    subst this
    exact ⟨by decide, rfl⟩
  | succ k ih =>
    intro T hT
    by_cases h : (32 : UInt8) ∈ T
    · obtain ⟨u, v, rfl, hu⟩ := List.eq_append_cons_of_mem h
      obtain ⟨h1, h2⟩ := split_cut (v := v) hu
      obtain ⟨h3, h4⟩ := ih v (by simp at hT; omega)
      rw [h1, fields_cut hu]
      refine ⟨by rw [List.length_cons]; omega, ?_⟩
      rw [Nat.add_comm, h2, h4]
      rfl
    · obtain ⟨h1, h2⟩ := split_one h
      rw [h1, h2, fields_one h]
      exact ⟨rfl, rfl⟩
theorem join_eq : ∀ (l : List By), Lib.join l [32] = joinS l
  | [] => rfl
  | [x] => Lib.join_one x [32]
  | x :: y :: r => by
    have h := join_eq (y :: r)
    rw [Lib.join_cons] at h ⊢
    rw [Lg.join_cons (by simp), ← h]
    simp [joinTail]
/-- the first space that a quote follows -/
def noteAt (s : By) : Int := index s [32, 34]
theorem noteAt_none {u : By} (h : ¬ (34 : UInt8) ∈ u) : noteAt u = -1 := by
  refine index_none fun j hj => ?_
  cases hq : occAt u [32, 34] j with
  | false => rfl
  | true =>
    exfalso
    unfold occAt at hq
    have hp := List.isPrefixOf_iff_prefix.1 hq
    obtain ⟨t, ht⟩ := hp
    have : (34 : UInt8) ∈ u.drop j := by rw [← ht]; simp
    exact h (List.mem_of_mem_drop this)
theorem noteAt_at {u v : By} (h : ¬ (34 : UInt8) ∈ u) : noteAt (u ++ 32 :: 34 :: v) = u.length := by
  refine index_first (by simp) ?_ ?_
  · unfold occAt
    rw [List.drop_left]
    simp [List.isPrefixOf]
  · intro j hj
    cases hq : occAt (u ++ 32 :: 34 :: v) [32, 34] j with
    | false => rfl
    | true =>
      exfalso
      unfold occAt at hq
      obtain ⟨t, ht⟩ := List.isPrefixOf_iff_prefix.1 hq
      have h2 : (u ++ 32 :: 34 :: v)[j + 1]? = some 34 := by
        have : (List.drop j (u ++ 32 :: 34 :: v))[1]? = some 34 := by rw [← ht]; rfl
        rwa [List.getElem?_drop] at this
      rcases Nat.lt_or_ge (j + 1) u.length with h3 | h3
      · rw [List.getElem?_append_left h3] at h2
        exact h (List.mem_of_getElem? h2)
      · rw [List.getElem?_append_right h3, show j + 1 - u.length = 0 from by omega] at h2
        simp at h2
theorem noteAt_split {s : By} {i : Nat} (h : noteAt s = i) : s = s.take i ++ 32 :: 34 :: s.drop (i + 2) := by
  rcases index_spec s [32, 34] with ⟨h1, _⟩ | ⟨k, h1, h2, h3, _⟩
  · unfold noteAt at h; omega
  · have : k = i := by unfold noteAt at h; omega
    subst this
    unfold occAt at h3
    obtain ⟨t, ht⟩ := List.isPrefixOf_iff_prefix.1 h3
    have e : s.drop (k + 2) = t := by rw [← List.drop_drop, ← ht]; rfl
    conv => lhs; rw [← List.take_append_drop k s, ← ht]
    rw [e]; rfl
/-- the numbers of all fields, if each is one -/
def allN : List By → Option (List Nat)
  | [] => some []
  | f :: r => match numB f, allN r with
    | some v, some vs => some (v :: vs)
    | _, _ => none
theorem allN_snoc (l : List By) (f : By) : allN (l ++ [f]) = match allN l, numB f with | some vs, some v => some (vs ++ [v]) | _, _ => none := by
  induction l with
  | nil => simp only [List.nil_append, allN]; cases numB f <;> rfl
  | cons a l ih => simp only [List.cons_append, allN, ih]; cases numB a <;> cases allN l <;> cases numB f <;> rfl
theorem allN_len : ∀ {l : List By} {vs : List Nat}, allN l = some vs → vs.length = l.length
  | [], vs, h => by cases h; rfl
  | f :: r, vs, h => by
    rw [allN] at h
    cases h1 : numB f <;> cases h2 : allN r <;> rw [h1, h2] at h <;> cases h
    simp [allN_len h2]
theorem numB_eq {f : By} {v : Nat} (h : numB f = some v) : f = decDigits v ∧ v < 10000000 := by
  unfold numB at h
  split at h
  · rename_i hc
    injection h with h
    rw [h] at hc
    refine ⟨hc.2.2.2.symm, ?_⟩
    have := valB_lt _ f rfl hc.2.2.1
    rw [h] at this
    refine Nat.lt_of_lt_of_le this ?_
    calc 10 ^ f.length ≤ 10 ^ 7 := Nat.pow_le_pow_right (by omega) hc.2.1
      _ = 10000000 := by decide
  · cases h
theorem allN_eq : ∀ {l : List By} {vs : List Nat}, allN l = some vs → l = vs.map decDigits
  | [], vs, h => by cases h; rfl
  | f :: r, vs, h => by
    rw [allN] at h
    cases h1 : numB f <;> cases h2 : allN r <;> rw [h1, h2] at h <;> cases h
    rw [List.map_cons, ← allN_eq h2, ← (numB_eq h1).1]
theorem allN_dec : ∀ (vs : List Nat), (∀ v ∈ vs, v < 10000000) → allN (vs.map decDigits) = some vs
  | [], _ => rfl
  | v :: vs, h => by
    rw [List.map_cons, allN, num_dec (h v (by simp)), allN_dec vs (fun x hx => h x (by simp [hx]))]
/-- the head and the note of a content -/
def headP (s : By) : By := if 0 ≤ noteAt s then s.take (noteAt s).toNat else s
noncomputable def noteP (s : By) : Option By := if 0 ≤ noteAt s then unq (s.drop ((noteAt s).toNat + 1)) else some []
/-- an entry of fields and a note -/
def mkE (l : List By) (ns : List Nat) (note : By) : Ent := ⟨ns.getD 0 0, ns.getD 1 0, l.getD 2 [], (ns.drop 2).map Int.ofNat, note⟩
theorem toldP {x : Ent} (h : OkE x) : headP (told x) = joinS (headF x) ∧ noteP (told x) = some x.note ∧ (0 ≤ noteAt (told x) ↔ x.note ≠ []) := by
  have hq := head_noq h
  by_cases hn : x.note = []
  · have e : told x = joinS (headF x) := by unfold told; rw [if_pos hn, List.append_nil]
    have ha : noteAt (told x) = -1 := by rw [e]; exact noteAt_none hq
    unfold headP noteP
    rw [ha, if_neg (by decide), if_neg (by decide), e, hn]
    exact ⟨rfl, rfl, by simp⟩
  · have e : told x = joinS (headF x) ++ 32 :: 34 :: (x.note.flatMap one ++ [34]) := by rw [told_note hn]; simp
    have ha : noteAt (told x) = (joinS (headF x)).length := by rw [e]; exact noteAt_at hq
    unfold headP noteP
    rw [ha, if_pos (by omega), if_pos (by omega), Int.toNat_natCast]
    refine ⟨?_, ?_, ?_⟩
    · rw [e, List.take_left]
    · refine unq_some.2 ⟨?_, h.n⟩
      rw [e, ← List.drop_drop, List.drop_left]
      rfl
    · constructor
      · intro _; exact hn
      · intro _; omega
theorem toldF {x : Ent} (h : OkE x) : fields (headP (told x)) = headF x := by rw [(toldP h).1, fields_join (headF x) (by simp [headF]) (headF_free h)]
def numsE (x : Ent) : List Nat := x.minute.toNat :: x.ship.toNat :: x.args.map Int.toNat
theorem toldN {x : Ent} (h : OkE x) : allN ((headF x).eraseIdx 2) = some (numsE x) := by
  have e : (headF x).eraseIdx 2 = (numsE x).map decDigits := by
    simp [headF, numsE, decI, List.eraseIdx]
  rw [e]
  refine allN_dec _ ?_
  intro v hv
  simp only [numsE, List.mem_cons, List.mem_map] at hv
  have h1 := h.m
  have h2 := h.s
  rcases hv with rfl | rfl | ⟨a, ha, rfl⟩
  · omega
  · omega
  · have := h.aa a ha; omega
theorem mkE_told {x : Ent} (h : OkE x) : mkE (headF x) (numsE x) x.note = x := by
  obtain ⟨m, s, v, a, n⟩ := x
  have h1 := h.m
  have h2 := h.s
  have h3 := h.aa
  simp only at h1 h2 h3
  have e : ((a.map Int.toNat).map Int.ofNat) = a := by
    rw [List.map_map]
    conv => rhs; rw [← List.map_id a]
    apply List.map_congr_left
    intro y hy
    have := (h3 y hy).1
    simp; omega
  have e1 : ((m.toNat : Nat) : Int) = m := by omega
  have e2 : ((s.toNat : Nat) : Int) = s := by omega
  simp only [mkE, numsE, headF, List.getD_cons_zero, List.getD_cons_succ, List.drop_succ_cons, List.drop_zero, e, e1, e2]
/-- the program's way -/
noncomputable def entP (s : By) : Option Ent := match noteP s with
  | none => none
  | some note => if 0 ≤ noteAt s ∧ note = [] then none else if 3 ≤ (fields (headP s)).length ∧ (fields (headP s)).length ≤ 7 then match allN ((fields (headP s)).eraseIdx 2) with
    | none => none
    | some ns => if okE (mkE (fields (headP s)) ns note) = true then some (mkE (fields (headP s)) ns note) else none
    else none
theorem three_cases {l : List By} (h : 3 ≤ l.length) : ∃ a b c r, l = a :: b :: c :: r := by
  match l, h with
  | a :: b :: c :: r, _ => exact ⟨a, b, c, r, rfl⟩
  | [], h => simp at h
  | [_], h => simp at h
  | [_, _], h => simp at h
theorem entP_eq (s : By) : entP s = entB s := by
  have key : ∀ x, entP s = some x → told x = s ∧ OkE x := by
    intro x hx
    unfold entP at hx
    cases hn : noteP s with
    | none => rw [hn] at hx; cases hx
    | some note =>
      rw [hn] at hx
      simp only at hx
      split at hx
      · cases hx
      · rename_i hne
        split at hx
        · rename_i hl
          cases ha : allN ((fields (headP s)).eraseIdx 2) with
          | none => rw [ha] at hx; cases hx
          | some ns =>
            rw [ha] at hx
            simp only at hx
            split at hx
            · rename_i hok
              injection hx with hx
              rw [hx] at hok
              refine ⟨?_, okE_iff.1 hok⟩
              obtain ⟨f0, f1, f2, fr, hf⟩ := three_cases hl.1
              rw [hf] at ha hx
              have h1 := allN_eq ha
              have hlen := allN_len ha
              obtain ⟨n0, n1, nr, hns⟩ : ∃ n0 n1 nr, ns = n0 :: n1 :: nr := by
                match ns, hlen with
                | a :: b :: r, _ => exact ⟨a, b, r, rfl⟩
                | [], h => simp [List.eraseIdx] at h
                | [_], h => simp [List.eraseIdx] at h
              rw [hns] at h1 hx
              simp only [List.eraseIdx_cons_succ, List.eraseIdx_cons_zero, List.map_cons, List.cons.injEq] at h1
              have hhead : headF x = fields (headP s) := by
                rw [hf, ← hx]
                simp only [headF, mkE, List.getD_cons_zero, List.getD_cons_succ, List.drop_succ_cons, List.drop_zero, decI]
                rw [h1.1, h1.2.1, h1.2.2, List.map_map]
                rfl
              have hnote : x.note = note := by rw [← hx]; rfl
              unfold told
              rw [hhead, join_fields, hnote]
              unfold noteP at hn
              unfold headP
              by_cases h0 : 0 ≤ noteAt s
              · rw [if_pos h0] at hn ⊢
                have hnn : note ≠ [] := fun e => hne ⟨h0, e⟩
                rw [if_neg hnn, (unq_some.1 hn).1]
                have hsp := noteAt_split (s := s) (i := (noteAt s).toNat) (by omega)
                generalize (noteAt s).toNat = i at hsp ⊢
                have e3 : s.drop (i + 1) = 34 :: s.drop (i + 2) := by
                  have h5 : i ≤ s.length := by
                    rcases Nat.lt_or_ge s.length i with h6 | h6
                    · exfalso
                      have := congrArg List.length hsp
                      rw [List.length_append, List.length_take, List.length_cons, List.length_cons, List.length_drop] at this
                      omega
                    · exact h6
                  have h7 : s.drop i = 32 :: 34 :: s.drop (i + 2) := by
                    conv => lhs; rw [hsp]
                    rw [List.drop_append_of_le_length (by rw [List.length_take]; omega), List.drop_of_length_le (by rw [List.length_take]; omega)]
                    rfl
                  rw [← List.drop_drop, h7]; rfl
                rw [e3]
                exact hsp.symm
              · rw [if_neg h0] at hn ⊢
                injection hn with hn
                rw [if_pos hn.symm, List.append_nil]
            · cases hx
        · cases hx
  cases he : entB s with
  | none =>
    cases hp : entP s with
    | none => rfl
    | some x =>
      have := entB_some.2 (key x hp)
      rw [he] at this; cases this
  | some x =>
    obtain ⟨h1, h2⟩ := entB_some.1 he
    obtain ⟨t1, t2, t3⟩ := toldP h2
    have t4 := toldF h2
    rw [h1] at t1 t2 t3 t4
    unfold entP
    rw [t2, t4]
    simp only
    have ha := h2.a
    rw [if_neg (by rintro ⟨h5, h6⟩; exact t3.1 h5 h6), if_pos (by simp [headF]; omega), toldN h2]
    simp only
    rw [mkE_told h2, if_pos (okE_iff.2 h2)]
/-- the reference's way -/
noncomputable def entR (s : By) : Option Ent := match noteP s with
  | none => none
  | some note => match allN ((fields (headP s)).eraseIdx 2) with
    | none => none
    | some ns => if okE (mkE (fields (headP s)) ns note) = true ∧ told (mkE (fields (headP s)) ns note) = s then some (mkE (fields (headP s)) ns note) else none
theorem entR_eq (s : By) : entR s = entB s := by
  cases he : entB s with
  | none =>
    cases hp : entR s with
    | none => rfl
    | some x =>
      exfalso
      unfold entR at hp
      cases hn : noteP s with
      | none => rw [hn] at hp; cases hp
      | some note =>
        rw [hn] at hp
        simp only at hp
        cases ha : allN ((fields (headP s)).eraseIdx 2) with
        | none => rw [ha] at hp; cases hp
        | some ns =>
          rw [ha] at hp
          simp only at hp
          split at hp
          · rename_i hc
            have := entB_some.2 ⟨hc.2, okE_iff.1 hc.1⟩
            rw [he] at this; cases this
          · cases hp
  | some x =>
    obtain ⟨h1, h2⟩ := entB_some.1 he
    obtain ⟨t1, t2, t3⟩ := toldP h2
    have t4 := toldF h2
    rw [h1] at t1 t2 t3 t4
    unfold entR
    rw [t2, t4]
    simp only
    rw [toldN h2]
    simp only
    rw [mkE_told h2, if_pos ⟨okE_iff.2 h2, h1⟩]
end Go.Proofs.YtaokegobilphnaaGreatDoor.Lg
/- reference's split -/
namespace Go.Proofs.YtaokegobilphnaaGreatDoor
open Go Go.RowKit Go.Shelf Go.Proofs Sp Lg
set_option linter.unusedVariables false
set_option linter.unusedSimpArgs false

theorem fields_sp (v : By) : ∀ t : By, fields (t ++ 32 :: v) = fields t ++ fields v := by
  intro t
  induction t with
  | nil => simp [fields]
  | cons b t ih =>
    rw [List.cons_append, fields, fields, ih]
    split
    · rfl
    · cases hq : fields t with
      | nil => exact absurd hq (fields_ne t)
      | cons x r => rfl
theorem fields_snoc {b : UInt8} (hb : b ≠ 32) : ∀ {t : By} {I : List By} {x : By}, fields t = I ++ [x] → fields (t ++ [b]) = I ++ [x ++ [b]] := by
  intro t
  induction t with
  | nil =>
    intro I x h
    have : I = [] ∧ x = [] := by
      cases I with
      | nil => simp [fields] at h; exact ⟨rfl, h⟩
      | cons a I => simp [fields] at h
    rw [this.1, this.2]
    simp [fields, hb]
  | cons c t ih =>
    intro I x h
    rw [fields] at h
    rw [List.cons_append, fields]
    split at h
    · rename_i hc
      rw [if_pos hc]
      cases I with
      | nil => injection h with h1 h2; exact absurd h2 (fields_ne t)
      | cons a I =>
        injection h with h1 h2
        rw [ih h2, ← h1]; rfl
    · rename_i hc
      rw [if_neg hc]
      cases hq : fields t with
      | nil => exact absurd hq (fields_ne t)
      | cons y r =>
        rw [hq] at h
        simp only at h
        cases I with
        | nil =>
          injection h with h1 h2
          subst h2
          rw [ih (I := []) hq]
          simp [← h1]
        | cons a I =>
          injection h with h1 h2
          subst h2
          rw [ih (I := y :: I) (x := x) (by rw [hq]; rfl), ← h1]
          rfl
theorem fields_last (t : By) : ∃ I x, fields t = I ++ [x] := ⟨(fields t).dropLast, (fields t).getLast (fields_ne t), (List.dropLast_concat_getLast (fields_ne t)).symm⟩
theorem fields_len : ∀ t : By, (fields t).length ≤ t.length + 1 := by
  intro t
  induction t with
  | nil => simp [fields]
  | cons b t ih =>
    rw [fields]
    split
    · simp; omega
    · cases hq : fields t with
      | nil => simp
      | cons x r => rw [hq] at ih; simp at ih ⊢; omega
theorem take_get {T : By} {k : Nat} {c : UInt8} (h : T[k]? = some c) : T.take (k + 1) = T.take k ++ [c] := by rw [List.take_add_one, h]; rfl
set_option maxRecDepth 100000 in
set_option maxHeartbeats 4000000 in
theorem rSplit_any (s : ByteArray) (w : World) (hs : s.size ≤ 1000000) :
    Calls Tryz.prog 94 #[.string s] w (CloneS w 9 1 (fields s.data.toList).length (strs (fields s.data.toList))) := by
  obtain ⟨i0, hi0, hz0, hz1, hz2⟩ := info_parts infoStr
  obtain ⟨T, hT⟩ : ∃ T, T = s.data.toList := ⟨_, rfl⟩
  have hTl : T.length = s.size := by rw [hT]; exact Array.length_toList
  have hget : ∀ (k : Nat) (hk : k < s.size), T[k]? = some s[k] ∧ s.extract k (k + 1) = bs [s[k]] := fun k hk => by
    have hk2 : k < T.length := by rw [hTl]; exact hk
    have h := byte_at hk
    rw [← hT, List.getD_eq_getElem?_getD, List.getElem?_eq_getElem hk2] at h
    have e : T[k] = s[k] := by simpa using h
    refine ⟨by rw [List.getElem?_eq_getElem hk2, e], ?_⟩
    conv => lhs; rw [← bs_eta s]
    rw [bs_ext, ← hT, List.drop_eq_getElem_cons hk2, e, show k + 1 - k = 1 from by omega]
    rfl
  rw [← hT]
  have O0 : Own w.heap.size w [.own 9 1 (some ⟨w.heap.size, 0, none⟩) 1 1 (strs [[]]) [w.heap.size]] (w.alloc (.cells #[.string ⟨#[]⟩] 9)) := by
    have h := (Own.start w).new (i := .own 9 1 (some ⟨w.heap.size, 0, none⟩) 1 1 (strs [[]]) [w.heap.size]) ((Below.refl _ _).alloc (Nat.le_refl _) (.cells #[.string ⟨#[]⟩] 9)) ⟨rfl, .inr ⟨_, _, rfl, rfl, heap_alloc_new _ _, by omega, by omega, rfl, by intro j u hu; simpa [strs, bs] using hu⟩⟩ (by simp [It.fp])
    simpa using h
  have HO := Lib.hid (And.intro O0 (And.intro hTl hget))
  clear O0 hTl hget hT
  go_enter Tryz.func94, Tryz.ntmps94
  go_wp2_with fail
  go_loopg [3, 4] s.size (fun g o i wr => ∃ (k : Nat) (I : List By) (x : By) (b d N : Nat), g + k = s.size ∧ i = .int .i64 k ∧ o = .slice (some ⟨b, 0, none⟩) (N + 1) d ∧ N = I.length ∧ N ≤ k ∧ x.length ≤ k ∧ fields (T.take k) = I ++ [x] ∧ Own w.heap.size w [.own 9 1 (some ⟨b, 0, none⟩) (N + 1) d (strs (I ++ [x])) [b]] wr)
  case atStart => exact ⟨0, [], [], w.heap.size, 1, 0, rfl, rfl, rfl, rfl, by omega, by simp, by simp [fields], HO.out.1⟩
  case round =>
    obtain ⟨k, I, x, b, d, N, hk, rfl, rfl, hN, hNk, hxk, hf, oo⟩ := hrel
    by_cases hlt : k < s.size
    · obtain ⟨hg1, hg2⟩ := HO.out.2.2 k hlt
      obtain ⟨c, hc⟩ : ∃ c, c = s[k] := ⟨_, rfl⟩
      obtain ⟨m, hm⟩ : ∃ m, m = c.toNat := ⟨_, rfl⟩
      rw [← hc] at hg1 hg2
      have hsk : s[k].toNat = m := by rw [hm, hc]
      by_cases hb : c = 32
      · have hb2 : ((m : Int) == 32) = true := by rw [hm, hb]; rfl
        have HS := Lib.hid (And.intro hN (And.intro hf (And.intro oo (And.intro hg1 (And.intro hg2 (And.intro hc (And.intro hm hb)))))))
        clear hN hf oo hg1 hg2 hc hm hb
        go_wp2_with (first
          | (at_builtin
             refine wpList_append_S (size := 1) rfl (.tmp 16) (.tmp 17) 36 rfl i0 _ 16 Tryz.underlying36 hi0 hz0 hz1 (by decide) hz2 rfl (A := some ⟨b, 0, none⟩) (n := N + 1) (c := d) (xs := strs (I ++ [x])) (fp := [b]) (by simp [Act.eval]) ⟨wr.heap.size, 0, none⟩ (by simp [Act.eval]) [.string ⟨#[]⟩] (((HS.out.2.2.1.below ((Below.refl _ _).alloc (Nat.le_refl _) _)).get 0 rfl)) rfl ?_ (by intro u hu; simp at hu; rcases hu with rfl; rfl) (by omega) (by decide) ?_
             · intro u v hv
               rw [show (⟨wr.heap.size, 0, none⟩ : Addr).add u = ⟨wr.heap.size, u, none⟩ from by simp [Addr.add]; omega, World.cell?_alloc_new]
               simpa using hv
             intro g c' w5 h1 h2 h3 h4
             have hq := (HS.out.2.2.1.below ((Below.refl _ _).alloc (Nat.le_refl _) _)).upd 0 rfl (i' := .own 9 1 (some ⟨g, 0, none⟩) (N + 1 + 1) c' (strs (I ++ [x]) ++ [Value.string ⟨#[]⟩]) [g]) h4 h1 (fun x hx => by
               rw [List.mem_singleton.1 hx]
               rcases h2 with h | h
               · exact .inl h
               · exact .inr (Nat.le_of_eq h))
             have HQ := Lib.hid hq
             clear h1 h2 h3 h4 hq))
        go_roundg (gk - 1)
        case measure => omega
        case rel =>
          refine ⟨k + 1, I ++ [x], [], g, c', N + 1, by omega, by go_num, rfl, by simp [HS.out.1], by omega, by simp, ?_, ?_⟩
          · rw [take_get HS.out.2.2.2.1, HS.out.2.2.2.2.2.2.2, fields_sp, HS.out.2.1]; rfl
          · have := HQ.out
            rw [show (Value.string ⟨#[]⟩) = .string (bs []) from rfl, strs_snoc] at this
            exact this
      · have hb2 : ((m : Int) == 32) = false := by rw [beq_eq_false_iff_ne, hm]; intro e; exact hb (UInt8.toNat_inj.1 (by have : (32 : UInt8).toNat = 32 := rfl; omega))
        have hr := (oo.owns 0 rfl).rd
        have hs1 := oo.owns 0 rfl
        obtain ⟨g', eg, _, hlb, hcb, hfb⟩ := hs1.some_ (by omega)
        injection eg with eg
        injection eg with eg
        subst eg
        have cx := hcb N (.string (bs x)) (by rw [strs_get (by simp [← hN])]; simp [hN])
        have fx := hfb N
        have hd2 : N + 1 ≤ d := hs1.ge
        have hd3 : d ≤ 9223372036854775807 := hs1.cap
        obtain ⟨X, hX⟩ : ∃ X, X = bs x := ⟨_, rfl⟩
        rw [← hX] at cx
        have hXs : X.size ≤ 1000000 := by rw [hX, bs_size]; omega
        have HS := Lib.hid (And.intro hN (And.intro hf (And.intro oo (And.intro hg1 (And.intro hX (And.intro hc (And.intro hm hb)))))))
        clear hN hf oo hg1 hX hc hm hb hr hs1 hcb hfb
        go_upto_region 7 with fail
        go_region
        all_goals go_wp2_with fail
        go_roundg (gk - 1)
        case measure => omega
        case rel =>
          have OF := HS.out.2.2.1.upd 0 rfl (i' := .own 9 1 (some ⟨b, 0, none⟩) (N + 1) d ((strs (I ++ [x])).set N (Value.string (X ++ bs [c]))) [b]) ((Keep.refl [b] wr).setCell (p := ⟨b, N, none⟩) (.inl (by simp)) (Value.string (X ++ bs [c]))) ((HS.out.2.2.1.owns 0 rfl).set_ N _) (fun y hy => .inl hy)
          refine ⟨k + 1, I, x ++ [c], b, d, N, by omega, by go_num, rfl, HS.out.1, by omega, by simp; omega, ?_, ?_⟩
          · rw [take_get HS.out.2.2.2.1, fields_snoc HS.out.2.2.2.2.2.2.2 HS.out.2.1]
          · have e : (strs (I ++ [x])).set N (Value.string (X ++ bs [c])) = strs (I ++ [x ++ [c]]) := by
              rw [HS.out.2.2.2.2.1, bs_app, HS.out.1]
              simp [strs]
            rw [e] at OF
            exact OF.drew
    · obtain rfl : k = s.size := by omega
      have HS := Lib.hid (And.intro hf (And.intro oo hN))
      clear hf oo hN
      go_wp2_with fail
      go_ret
      have hf := HS.out.1
      rw [← HO.out.2.1, List.take_length] at hf
      refine ⟨some ⟨b, 0, none⟩, d, [b], ?_, ?_, fun x hx => HS.out.2.1.ge 0 rfl hx, HS.out.2.1.bel⟩
      · rw [hf, List.length_append, List.length_singleton, ← HS.out.2.2]; rfl
      · rw [hf, List.length_append, List.length_singleton, ← HS.out.2.2]; exact HS.out.2.1.get 0 rfl
end Go.Proofs.YtaokegobilphnaaGreatDoor
/- A range over an iterator that keeps its place in a variable of its own: the contract, and the loop's law (all rounds go on). -/
namespace Go.Proofs.YtaokegobilphnaaGreatDoor
open Go Go.RowKit Go.Shelf Go.Proofs
set_option linter.unusedVariables false

/-- what an iterator with a variable at tb gives: each of the things of S, one a round -/
def SeqT {α : Type} (F : Fence) (n : Nat) (P : Program) (g : Nat) (lb : Array Value) (enc : α → Value) (tb : Nat) (S : List α → Prop) (N : Nat) (w : World) : Prop :=
  ∀ (l : Nat) (J : List α → World → Prop) (W : World), Below w.heap.size w W → W.heap[tb]? = w.heap[tb]? → (∀ s A B, J s A → Keep [tb] A B → J s B) →
    (∀ pre x W1, J pre W1 → pre.length < N → YieldAt F (n - 1) P l #[enc x] W1 fun e W' => e = .returned (.bool true) ∧ J (pre ++ [x]) W' ∧ W1.heap.size ≤ W'.heap.size ∧ W'.heap[tb]? = W1.heap[tb]?) →
    J [] W → CallsIn F n P g (#[.func (.yield l) #[] #[]] ++ lb) W fun e W' => (∃ v, e = .returned v) ∧ ∃ xs, S xs ∧ J xs W'
/-- nothing but the variable and what is no cells has changed -/
structure Sim (B tb : Nat) (A C : World) : Prop where
  os : A.os = C.os
  tape : A.tape = C.tape
  output : A.output = C.output
  size : A.heap.size ≤ C.heap.size
  same : ∀ (k : Nat) (o : Obj), A.heap[k]? = some o → k ≠ tb → (B ≤ k → o.isCells = true) → C.heap[k]? = some o
theorem Sim.of_keep {B tb : Nat} {A C : World} (h : Keep [tb] A C) : Sim B tb A C :=
  ⟨h.os.symm, h.tape.symm, h.output.symm, h.size, fun k o hk hn _ => (h.block k (Array.getElem?_eq_some_iff.1 hk).1 (by simpa using hn)).trans hk⟩
theorem Sim.put {B tb l : Nat} {A : World} {o o' : Obj} (hB : B ≤ l) (hl : A.heap[l]? = some o) (ho : o.isCells = false) : Sim B tb A (A.putObj l o') := by
  refine ⟨rfl, rfl, rfl, by simp [World.putObj], fun k q hk _ hc => ?_⟩
  by_cases e : k = l
  · subst e
    rw [hl] at hk
    injection hk with hk
    subst hk
    rw [ho] at hc
    exact absurd (hc hB) (by simp)
  · rw [World.putObj_heap_other e]; exact hk
theorem Sim.alloc {B tb : Nat} {A : World} (o : Obj) : Sim B tb A (A.alloc o) :=
  ⟨rfl, rfl, rfl, by simp, fun k q hk _ _ => heap_alloc' hk _⟩
variable {F : Fence} {n : Nat} {P : Program}
theorem range_tb {α : Type} {g : Operand} {ps : Array Tmp} {assign body : Code} {Q : Exit → Act → World → Prop} {a : Act} {w w0 : World} {enc : α → Value} {tb N gf : Nat} {lb : Array Value} {S : List α → Prop}
    (hro : F.round = none) (h1 : 1 ≤ n) (hg : a.eval g = .func (.func gf) #[] lb) (hFg : F.fn gf) (eg : ∀ args w, (callFunc gf args).run P w = .ok (.enter gf args) w)
    (hseq : SeqT F (n - 1) P gf lb enc tb S N w0) (hb0 : Below w0.heap.size w0 w) (ht0 : w.heap[tb]? = w0.heap[tb]?) (htb : tb < w.heap.size) (hps : ps.size = 1)
    (I : List α → World → Prop) (hI : ∀ s A C, I s A → Sim w.heap.size tb A C → I s C) (h0 : I [] w) (a1 : α → Act)
    (hassign : ∀ (l : Nat) (x : α) (W : World) (K : Act → World → Prop), K (a1 x) W → assign.wpIn (F.inRound l) (n - 1 - 1) P (Exit.then K (fun _ _ _ => False)) { tmps := (ps.zip #[enc x]).foldl (fun t (p, v) => t.setIfInBounds p v) a.tmps, defers := [] } W)
    (hbody : ∀ (l : Nat) (pre : List α) (x : α) (W : World), I pre W → pre.length < N → tb < W.heap.size → body.wpIn (F.inRound l) (n - 1 - 1) P (fun e _ W' => e = .normal ∧ KeepsOthers W W' ∧ W.heap.size ≤ W'.heap.size ∧ W'.heap[tb]? = W.heap[tb]? ∧ I (pre ++ [x]) W') (a1 x) W)
    (hdone : ∀ (D : Nat) (xs : List α) (W : World), w.heap.size ≤ D → S xs → I xs W → W.heap[D]? = some (.deferred (some [])) → Q .normal { a with defers := { target := .collected D, args := #[] } :: a.defers } W) :
    (Code.rangeFunc g ps assign body).wpIn F n P Q a w := by
  refine wpIn_rangeFunc fun fn hfn => ?_
  rw [hro]
  obtain ⟨D, hD⟩ : ∃ D, D = w.heap.size := ⟨_, rfl⟩
  obtain ⟨R, hR⟩ : ∃ R : LoopState → Loop, R = fun st => { state := st, pending := none, fn := fn, tmps := a.tmps, params := ps, assign := assign, body := body, defers := w.heap.size } := ⟨_, rfl⟩
  obtain ⟨V, hV⟩ : ∃ V, V = (w.alloc (.deferred (some []))).alloc (.loop (R .ready)) := ⟨_, rfl⟩
  have hVD : V.heap[D]? = some (.deferred (some [])) := by rw [hV, hD]; exact heap_alloc' (heap_alloc_new _ _) _
  have hVL : V.heap[D + 1]? = some (.loop (R .ready)) := by
    have := heap_alloc_new (w.alloc (.deferred (some []))) (.loop (R .ready))
    rw [World.size_alloc] at this
    rw [hV, hD]; exact this
  have hVI : I [] V := by rw [hV]; exact hI _ _ _ (hI _ _ _ h0 (Sim.alloc _)) (Sim.alloc _)
  have hVb : Below w0.heap.size w0 V := by rw [hV]; exact hb0.trans ((((Below.refl _ w).alloc (Nat.le_refl _) _).alloc (by simp) _).mono hb0.size)
  have hVt : V.heap[tb]? = w0.heap[tb]? := by
    rw [← ht0]
    obtain ⟨o, ho⟩ : ∃ o, w.heap[tb]? = some o := ⟨_, Array.getElem?_eq_getElem htb⟩
    rw [ho, hV]; exact heap_alloc' (heap_alloc' ho _) _
  refine ⟨D + 1, [{ target := .collected D, args := #[] }], V, { target := .fn (.func gf) lb, args := #[.func (.yield (D + 1)) #[] #[]] }, V, gf, #[.func (.yield (D + 1)) #[] #[]] ++ lb, V, ?_, ?_, ?_, ?_, fun _ => h1, ?_⟩
  · rw [hV, hR, hD]; exact run_enterLoop_outer _ _ _ _ _
  · simp only [resolve, hg]
    simp [go_sem]
  · intro f hf
    simp [Target.leads] at hf
    subst hf
    exact hFg
  · simp [invoke, go_sem, eg]
  · have hDt : D ≠ tb ∧ D + 1 ≠ tb := by omega
    refine (hseq (D + 1) (fun pre W => I pre W ∧ W.heap[D + 1]? = some (.loop (R .ready)) ∧ W.heap[D]? = some (.deferred (some []))) V hVb hVt ?_ ?_ ⟨hVI, hVL, hVD⟩).mono ?_
    · rintro s A B ⟨j1, j2, j3⟩ hk
      exact ⟨hI _ _ _ j1 (Sim.of_keep hk), (hk.block _ (Array.getElem?_eq_some_iff.1 j2).1 (by simpa using hDt.2)).trans j2, (hk.block _ (Array.getElem?_eq_some_iff.1 j3).1 (by simpa using hDt.1)).trans j3⟩
    · rintro pre x W ⟨j1, j2, j3⟩ hN
      have hlt : D + 1 < W.heap.size := (Array.getElem?_eq_some_iff.1 j2).1
      have hy := run_yield (P := P) (args := #[enc x]) j2 (by rw [hR]; simp [hps])
      rw [hR] at hy
      refine ⟨fn, _, assign, body, hy, roundIn_of_wpIn hfn (hassign _ x W _ ⟨_, run_beginRound j2 (by rw [hR]), ?_⟩)⟩
      obtain ⟨X, hX⟩ : ∃ X, X = W.putObj (D + 1) (.loop { R .ready with state := .busy }) := ⟨_, rfl⟩
      have x2 : X.heap[D + 1]? = some (.loop { R .ready with state := .busy }) := by rw [hX]; exact World.putObj_heap_same hlt
      have x3 : X.heap[D]? = some (.deferred (some [])) := by rw [hX, World.putObj_heap_other (by omega)]; exact j3
      have xt : X.heap[tb]? = W.heap[tb]? := by rw [hX, World.putObj_heap_other (by omega)]
      have xs : X.heap.size = W.heap.size := by rw [hX]; simp [World.putObj]
      have xI : I pre X := by rw [hX]; exact hI _ _ _ j1 (Sim.put (by omega) j2 rfl)
      rw [← hX]
      refine wpIn_mono (hbody _ pre x X xI hN (by omega)) ?_
      rintro e a3 W3 ⟨rfl, hk3, hs3, ht3, hi3⟩
      have y2 := hk3.same _ _ x2 rfl
      have y3 := hk3.same _ _ x3 rfl
      have he := run_endRound (P := P) none y2
      refine ⟨_, _, he, rfl, ⟨hI _ _ _ hi3 (Sim.put (by omega) y2 rfl), ?_, ?_⟩, ?_, ?_⟩
      · rw [World.putObj_heap_same (Array.getElem?_eq_some_iff.1 y2).1, hR]; rfl
      · rw [World.putObj_heap_other (by omega)]; exact y3
      · simp only [World.putObj, Array.size_setIfInBounds]; omega
      · rw [World.putObj_heap_other (by omega), ht3, xt]
    · rintro e W2 ⟨⟨v, rfl⟩, xs, hS, j1, j2, j3⟩
      have hq := fun o => hdone D xs (W2.putObj (D + 1) (.loop o)) (by omega) hS (hI _ _ _ j1 (Sim.put (by omega) j2 rfl)) (by rw [World.putObj_heap_other (by omega)]; exact j3)
      subst hR
      have he := run_endLoop (P := P) j2 (by simp)
      exact ⟨none, _, he, hq _⟩
end Go.Proofs.YtaokegobilphnaaGreatDoor
/- As XRegion, for regions with guarded operations: an operation whose guard says no only puts undef. -/
namespace Go.Proofs.YtaokegobilphnaaGreatDoor
open Go
set_option linter.unusedVariables false

def regionOkG (ops : List Oper) (n : Nat) : Bool :=
  (ops.filterMap (·.dst)).Nodup && (ops.filterMap (·.dst)).all (· < n) && ops.zipIdx.all (fun p => p.1.after.toList.all fun e => !Region.binds .any e || decide (e.on < p.2))
/-- what one operation owes, wanted or not -/
def GStep {σ : Type} (P : Program) (ops : List Oper) (Q : Exit → Act → World → Prop) (φ : σ → Nat → Value → World → Prop) (W : σ → (Nat → Bool) → World → Prop) (i : Nat) (o : Oper) (s : σ) (l : Nat → Bool) (a : Act) (w : World) : Prop :=
  if Region.wanted o (yielded ops.toArray a.tmps) = true then o.wp P a w (fun a' w' => ∃ s' v, a' = a.put o.dst v ∧ W s' (upd l i) w' ∧ (o.dst.isSome = true → φ s' i v w') ∧ (∀ j u, l j = true → φ s j u w → φ s' j u w')) Q
  else ∃ s' v, a.put o.dst undef = a.put o.dst v ∧ W s' (upd l i) w ∧ (o.dst.isSome = true → φ s' i v w) ∧ (∀ j u, l j = true → φ s j u w → φ s' j u w)

theorem wp_region_invG {σ : Type} {P : Program} {ops : List Oper} {Q : Exit → Act → World → Prop} {id : Nat} {a0 : Act} {w0 : World} (hm : P.follows .mixedOrders = true)
    (hok : regionOkG ops a0.tmps.size = true)
    (φ : σ → Nat → Value → World → Prop) (W : σ → (Nat → Bool) → World → Prop) (s0 : σ) (h0 : W s0 (fun _ => false) w0.drew)
    (hstep : ∀ i o, ops[i]? = some o → ∀ s l a w, l i = false → (∀ e ∈ o.after.toList, Region.binds .any e = true → l e.on = true) → W s l w → FrOk ops a0 (φ s) l a w →
      GStep P ops Q φ W i o s l a w)
    (hfin : ∀ s a w, W s (fun j => decide (j < ops.length)) w → FrOk ops a0 (φ s) (fun j => decide (j < ops.length)) a w → Q .normal a w) :
    (Code.region id ops.toArray true).wp P Q a0 w0 := by
  simp only [regionOkG, Bool.and_eq_true, decide_eq_true_eq] at hok
  obtain ⟨⟨hnd, hltB⟩, hgB⟩ := hok
  have hlt : ∀ (o : Oper) (d : Nat), o ∈ ops → o.dst = some d → d < a0.tmps.size := fun o d ho hd => by
    have := List.all_eq_true.1 hltB d (List.mem_filterMap.2 ⟨o, ho, hd⟩)
    simpa using this
  have hg : ∀ i o, ops[i]? = some o → True ∧ ∀ e ∈ o.after.toList, Region.binds .any e = true → e.on < i := fun i o ho => by
    have := List.all_eq_true.1 hgB (o, i) (List.mem_zipIdx_iff_getElem?.2 ho)
    simp only at this
    refine ⟨trivial, fun e he hb => ?_⟩
    have h2 := List.all_eq_true.1 this e he
    simpa [hb] using h2
  have hsz : ops.toArray.size = ops.length := by simp
  -- all have been carried out where none may come up
  have hall : ∀ listed : Array Bool, listed.size = ops.length → Region.ready .any ops.toArray listed = [] → ∀ n, ∀ j, j < n → j < ops.length → listed.getD j false = true := by
    intro listed hls hr n
    induction n with
    | zero => intro j hj; omega
    | succ n ih =>
      intro j hj hjl
      by_cases hjn : j < n
      · exact ih j hjn hjl
      · obtain rfl : j = n := by omega
        cases hl : listed.getD j false with
        | true => rfl
        | false =>
          exfalso
          have hl' : listed.getD j true = false ∨ listed.size ≤ j := by
            rcases Nat.lt_or_ge j listed.size with h | h
            · left; simp [h] at hl ⊢; exact hl
            · exact .inr h
          have ho : ops[j]? = some ops[j] := List.getElem?_eq_getElem hjl
          rcases hl' with hl' | hl'
          · have : j ∈ Region.ready .any ops.toArray listed := mem_ready.2 ⟨hl', ops[j], by simp [hjl], fun e he hb => ih e.on ((hg j _ ho).2 e (by simpa using he) hb) (by have := (hg j _ ho).2 e (by simpa using he) hb; omega)⟩
            rw [hr] at this
            cases this
          · omega
  have main : ∀ fuel (listed : Array Bool) (a : Act) (w : World) (s : σ), listed.size = ops.length → cntFalse (fun j => listed.getD j false) ops.length ≤ fuel → W s (fun j => listed.getD j false) w → FrOk ops a0 (φ s) (fun j => listed.getD j false) a w →
      wpAny P .any ops.toArray Q fuel listed a w := by
    intro fuel
    have hend : ∀ (listed : Array Bool) (a : Act) (w : World) (s : σ), listed.size = ops.length → (∀ j, j < ops.length → listed.getD j false = true) → W s (fun j => listed.getD j false) w → FrOk ops a0 (φ s) (fun j => listed.getD j false) a w → Q .normal a w := by
      intro listed a w s hs hl hW hF
      have he : (fun j => listed.getD j false) = fun j => decide (j < ops.length) := by
        funext j
        by_cases hj : j < ops.length
        · rw [hl j hj]; simp [hj]
        · simp [hj, hs]
      rw [he] at hW hF
      exact hfin s a w hW hF
    induction fuel with
    | zero =>
      intro listed a w s hs hc hW hF
      have hl := cntFalse_zero ops.length (Nat.le_zero.1 hc)
      refine ⟨?_, hend listed a w s hs hl hW hF⟩
      apply List.eq_nil_iff_forall_not_mem.2
      intro i hi
      obtain ⟨h1, o, ho, _⟩ := mem_ready.1 hi
      have hil : i < ops.length := by simpa using (Array.getElem?_eq_some_iff.1 ho).1
      have h2 := hl i hil
      have : i < listed.size := by omega
      simp [this] at h1 h2
      rw [h2] at h1
      cases h1
    | succ fuel ih =>
      intro listed a w s hs hc hW hF
      refine ⟨fun hr => hend listed a w s hs (fun j hj => hall listed hs hr (j + 1) j (by omega) hj) hW hF, fun i hi => ?_⟩
      obtain ⟨h1, o, ho, hdep⟩ := mem_ready.1 hi
      have hil : i < ops.length := by simpa using (Array.getElem?_eq_some_iff.1 ho).1
      have ho' : ops[i]? = some o := by rw [← ho]; simp
      have hli : i < listed.size := by omega
      have hl0 : listed.getD i false = false := by simp [hli] at h1 ⊢; exact h1
      have hst := hstep i o ho' s (fun j => listed.getD j false) a w hl0 (fun e he hb => hdep e (by simpa using he) hb) hW hF
      unfold wpOp
      rw [ho]
      have key : ∀ a' w', (∃ s' v, a' = a.put o.dst v ∧ W s' (upd (fun j => listed.getD j false) i) w' ∧ (o.dst.isSome = true → φ s' i v w') ∧ (∀ j u, (fun j => listed.getD j false) j = true → φ s j u w → φ s' j u w')) → wpAny P .any ops.toArray Q fuel (listed.setIfInBounds i true) a' w' := ?_
      · unfold GStep at hst
        simp only
        by_cases hw : Region.wanted o (yielded ops.toArray a.tmps) = true
        · rw [if_pos hw] at hst ⊢
          exact .inl (Oper.wp_mono key hst)
        · rw [if_neg hw] at hst ⊢
          exact key _ _ hst
      rintro a' w' ⟨s', v, rfl, hW', hφ, hstab⟩
      have hupd : (fun j => (listed.setIfInBounds i true).getD j false) = upd (fun j => listed.getD j false) i := by
        funext j
        simp only [upd]
        split
        · rename_i hj; subst hj; simp [hli]
        · rename_i hj; rw [getD_set_ne false (Ne.symm hj)]
      have hcl : ∀ j o', upd (fun j => listed.getD j false) i j = true → ops[j]? = some o' → ∀ e ∈ o'.after.toList, Region.binds .any e = true → upd (fun j => listed.getD j false) i e.on = true := by
        intro j o' hj ho'' e he hb
        have hold : (listed.getD e.on false) = true → upd (fun j => listed.getD j false) i e.on = true := fun h => by simp only [upd]; split <;> first | rfl | exact h
        by_cases hji : j = i
        · subst hji
          rw [ho'] at ho''
          injection ho'' with e1
          subst e1
          exact hold (hdep e (by simpa using he) hb)
        · have hj' : listed.getD j false = true := by simpa [upd, hji] using hj
          exact hold (hF.closed j o' hj' ho'' e he hb)
      have hF' : FrOk ops a0 (φ s') (upd (fun j => listed.getD j false) i) (a.put o.dst v) w' := by
        cases hd : o.dst with
        | none =>
          refine ⟨hF.defers, hF.size, fun t ht => hF.other t (fun j o' hj hd' => by have := ht j o' hj hd'; simp only [upd] at this; split at this <;> first | exact this | cases this), fun j o' d hj ho'' hd' => ?_, hcl⟩
          have hji : j ≠ i := by
            rintro rfl
            rw [ho'] at ho''
            injection ho'' with e
            rw [← e, hd] at hd'
            cases hd'
          have hj' : listed.getD j false = true := by simpa [upd, hji] using hj
          obtain ⟨u, hu, hp⟩ := hF.vals j o' d hj' ho'' hd'
          exact ⟨u, hu, hstab j u hj' hp⟩
        | some d0 =>
          refine ⟨hF.defers, by simp [Act.put, hF.size], fun t ht => ?_, fun j o' d hj ho'' hd' => ?_, hcl⟩
          · have : d0 ≠ t := fun e => by
              have := ht i o ho' (by rw [hd, e])
              simp [upd] at this
            simp only [Act.put]
            rw [Array.getElem?_setIfInBounds_ne this]
            exact hF.other t (fun j o' hj hd' => by have := ht j o' hj hd'; simp only [upd] at this; split at this <;> first | exact this | cases this)
          · by_cases hji : j = i
            · subst hji
              rw [ho'] at ho''
              injection ho'' with e
              subst e
              rw [hd] at hd'
              injection hd' with e
              subst e
              have hlt' : d0 < a.tmps.size := by rw [hF.size]; exact hlt o d0 (List.mem_of_getElem? ho') hd
              exact ⟨v, by simp [Act.put, hlt'], hφ (by rw [hd]; rfl)⟩
            · have hj' : listed.getD j false = true := by simpa [upd, hji] using hj
              obtain ⟨u, hu, hp⟩ := hF.vals j o' d hj' ho'' hd'
              have hne : d0 ≠ d := by
                rintro rfl
                exact hji (nodup_dst hnd ho'' ho' hd' hd)
              refine ⟨u, ?_, hstab j u hj' hp⟩
              simp only [Act.put]
              rw [Array.getElem?_setIfInBounds_ne hne]
              exact hu
      refine ih _ _ _ s' (by simp [hs]) ?_ (by rw [hupd]; exact hW') (by rw [hupd]; exact hF')
      rw [hupd]
      have := cntFalse_upd (f := fun j => listed.getD j false) hl0 ops.length hil
      omega
  refine wp_region_any hm ?_
  rw [hsz]
  have hf : (fun j => (Array.replicate ops.length false).getD j false) = fun _ => false := by
    funext j
    rcases Nat.lt_or_ge j ops.length with h | h <;> simp [h]
  refine main ops.length _ a0 w0.drew s0 (by simp) (cntFalse_le _ _) (by rw [hf]; exact h0) ?_
  exact ⟨rfl, rfl, fun _ _ => rfl, fun j o d hj => (by rw [congrFun hf j] at hj; cases hj), fun j o hj => (by rw [congrFun hf j] at hj; cases hj)⟩

def StepOkG {σ : Type} (P : Program) (ops : List Oper) (Q : Exit → Act → World → Prop) (a0 : Act) (φ : σ → Nat → Value → World → Prop) (W : σ → (Nat → Bool) → World → Prop) (i : Nat) (o : Oper) : Prop :=
  ∀ s l a w, l i = false → (∀ e ∈ o.after.toList, Region.binds .any e = true → l e.on = true) → W s l w → FrOk ops a0 (φ s) l a w → GStep P ops Q φ W i o s l a w
theorem wp_region_stepsG {σ : Type} {P : Program} {ops : List Oper} {Q : Exit → Act → World → Prop} {id : Nat} {a0 : Act} {w0 : World} (hm : P.follows .mixedOrders = true)
    (hok : regionOkG ops a0.tmps.size = true)
    (φ : σ → Nat → Value → World → Prop) (W : σ → (Nat → Bool) → World → Prop) (s0 : σ) (h0 : W s0 (fun _ => false) w0.drew)
    (hstep : AllFrom (StepOkG P ops Q a0 φ W) 0 ops)
    (hfin : ∀ s a w, W s (fun j => decide (j < ops.length)) w → FrOk ops a0 (φ s) (fun j => decide (j < ops.length)) a w → Q .normal a w) :
    (Code.region id ops.toArray true).wp P Q a0 w0 :=
  wp_region_invG hm hok φ W s0 h0 (fun i o ho => by have := allFrom_get hstep i o ho; rwa [Nat.zero_add] at this) hfin
/-- an operation without a guard -/
theorem stepG_plain {σ : Type} {P : Program} {ops : List Oper} {Q : Exit → Act → World → Prop} {a0 : Act} {φ : σ → Nat → Value → World → Prop} {W : σ → (Nat → Bool) → World → Prop} {i : Nat} {o : Oper} (hg : o.guard = none) (h : StepOk P ops Q a0 φ W i o) : StepOkG P ops Q a0 φ W i o := by
  intro s l a w hl hd hW hF
  unfold GStep
  rw [if_pos (by simp [Region.wanted, hg])]
  exact h s l a w hl hd hW hF
/-- a guarded operation: what it owes where its guard says yes, and that nothing is lost where it says no -/
theorem stepG_guard {σ : Type} {P : Program} {ops : List Oper} {Q : Exit → Act → World → Prop} {a0 : Act} {φ : σ → Nat → Value → World → Prop} {W : σ → (Nat → Bool) → World → Prop} {i : Nat} {o : Oper}
    (hy : ∀ s l a w, l i = false → (∀ e ∈ o.after.toList, Region.binds .any e = true → l e.on = true) → W s l w → FrOk ops a0 (φ s) l a w → Region.wanted o (yielded ops.toArray a.tmps) = true →
      o.wp P a w (fun a' w' => ∃ s' v, a' = a.put o.dst v ∧ W s' (upd l i) w' ∧ (o.dst.isSome = true → φ s' i v w') ∧ (∀ j u, l j = true → φ s j u w → φ s' j u w')) Q)
    (hn : ∀ s l a w, l i = false → (∀ e ∈ o.after.toList, Region.binds .any e = true → l e.on = true) → W s l w → FrOk ops a0 (φ s) l a w → Region.wanted o (yielded ops.toArray a.tmps) = false → W s (upd l i) w ∧ φ s i undef w) : StepOkG P ops Q a0 φ W i o := by
  intro s l a w hl hd hW hF
  unfold GStep
  by_cases hw : Region.wanted o (yielded ops.toArray a.tmps) = true
  · rw [if_pos hw]; exact hy s l a w hl hd hW hF hw
  · rw [if_neg hw]
    obtain ⟨h1, h2⟩ := hn s l a w hl hd hW hF (by simpa using hw)
    exact ⟨s, undef, rfl, h1, fun _ => h2, fun _ _ _ h => h⟩
end Go.Proofs.YtaokegobilphnaaGreatDoor
/- Guards that are decided: a guarded operation that is carried out, or that is not. -/
namespace Go.Proofs.YtaokegobilphnaaGreatDoor
open Go
set_option linter.unusedVariables false

section
variable {σ : Type} {P : Program} {ops : List Oper} {Q : Exit → Act → World → Prop} {a0 : Act} {φ : σ → Nat → Value → World → Prop} {W : σ → (Nat → Bool) → World → Prop} {i : Nat} {o : Oper}
theorem wanted_eq {φ : Nat → Value → World → Prop} {l : Nat → Bool} {a : Act} {w : World} (hF : FrOk ops a0 φ l a w) {g d : Nat} {b z : Bool} (ho : o.guard = some (g, b)) (hd : (ops[g]?).bind (·.dst) = some d) (hl : l g = true) (hφ : ∀ v, φ g v w → v = .bool z) :
    Region.wanted o (yielded ops.toArray a.tmps) = (z == b) := by
  cases hg : ops[g]? with
  | none => rw [hg] at hd; cases hd
  | some og =>
    rw [hg] at hd
    obtain ⟨v, hv, hp⟩ := hF.vals g og d hl hg hd
    rw [hφ v hp] at hv
    have hd' : og.dst = some d := hd
    simp [Region.wanted, ho, yielded, hg, hd', hv]
theorem stepG_yes (h : StepOk P ops Q a0 φ W i o) (hw : ∀ (s : σ) (l : Nat → Bool) (a : Act) (w : World), (∀ e ∈ o.after.toList, Region.binds .any e = true → l e.on = true) → FrOk ops a0 (φ s) l a w → Region.wanted o (yielded ops.toArray a.tmps) = true) : StepOkG P ops Q a0 φ W i o :=
  stepG_guard (fun s l a w hl hd hW hF _ => h s l a w hl hd hW hF) (fun s l a w hl hd hW hF hn => by rw [hw s l a w hd hF] at hn; cases hn)
theorem stepG_no (h : ∀ (s : σ) (l : Nat → Bool) (a : Act) (w : World), l i = false → W s l w → W s (upd l i) w ∧ φ s i undef w) (hw : ∀ (s : σ) (l : Nat → Bool) (a : Act) (w : World), (∀ e ∈ o.after.toList, Region.binds .any e = true → l e.on = true) → FrOk ops a0 (φ s) l a w → Region.wanted o (yielded ops.toArray a.tmps) = false) : StepOkG P ops Q a0 φ W i o :=
  stepG_guard (fun s l a w hl hd hW hF hn => by rw [hw s l a w hd hF] at hn; cases hn) (fun s l a w hl hd hW hF _ => h s l a w hl hW)
end
end Go.Proofs.YtaokegobilphnaaGreatDoor
