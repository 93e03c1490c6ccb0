/- polynyaref13.Unquote (printed by tools/lgur.py) -/
import Derived.Test.YtaokegobilphnaaGreatDoorLLp9
import Derived.Test.YtaokegobilphnaaGreatDoorLLp7
import Derived.Test.YtaokegobilphnaaGreatDoorLLp10
set_option linter.unusedVariables false
set_option linter.unusedSimpArgs false
namespace Go.Proofs.YtaokegobilphnaaGreatDoor
open Go Go.RowKit Go.Shelf Go.Proofs Sp Lg
set_option linter.unusedVariables false
set_option linter.unusedSimpArgs false

theorem uq_split {T : By} (h2 : 2 ≤ T.length) (h0 : T.getD 0 0 = 34) (h1 : T.getD (T.length - 1) 0 = 34) : T = 34 :: ((T.drop 1).take (T.length - 2) ++ [34]) := by
  cases T with
  | nil => simp at h2
  | cons a r =>
    have ha : a = 34 := by simpa using h0
    subst ha
    have hr : r ≠ [] := by intro e; rw [e] at h2; simp at h2
    obtain ⟨t, b, rfl⟩ : ∃ t b, r = t ++ [b] := ⟨_, _, (List.dropLast_concat_getLast hr).symm⟩
    have hb : b = 34 := by
      simp only [List.length_cons, List.length_append, List.length_nil, Nat.add_sub_cancel] at h1
      rw [List.getD_cons_succ, List.getD_eq_getElem?_getD, List.getElem?_append_right (by omega)] at h1
      simpa using h1
    subst hb
    simp
theorem uq_ends {T n : By} (h : quo n = T) : 2 ≤ T.length ∧ T.getD 0 0 = 34 ∧ T.getD (T.length - 1) 0 = 34 := by
  have hl := quo_len n
  rw [h] at hl
  refine ⟨by omega, by rw [← h]; rfl, ?_⟩
  rw [hl, show (n.flatMap one).length + 2 - 1 = (n.flatMap one).length + 1 from rfl, ← h]
  unfold quo
  rw [List.getD_cons_succ, List.getD_eq_getElem?_getD, List.getElem?_append_right (by omega)]
  simp
theorem uq_none {T : By} (h : ¬ (2 ≤ T.length ∧ T.getD 0 0 = 34 ∧ T.getD (T.length - 1) 0 = 34)) : unq T = none := unq_none.2 fun n hn _ => h (uq_ends hn)
theorem uq_body {T U n : By} (hT : T = 34 :: (U ++ [34])) : quo n = T ↔ n.flatMap one = U := by
  rw [hT]
  unfold quo
  constructor
  · intro h
    injection h with _ h
    exact List.append_cancel_right h
  · intro h; rw [h]
/-- a writing that begins as another one goes on behind it -/
theorem ones_rest : ∀ {N n R : By}, n.flatMap one = N.flatMap one ++ R → ∃ n', n = N ++ n' ∧ n'.flatMap one = R
  | [], n, R, h => ⟨n, rfl, h⟩
  | c :: N, [], R, h => by
    rw [List.flatMap_nil, List.flatMap_cons, List.append_assoc] at h
    exact absurd (List.append_eq_nil_iff.1 h.symm).1 (one_ne c)
  | c :: N, b :: n, R, h => by
    rw [List.flatMap_cons, List.flatMap_cons, List.append_assoc] at h
    obtain ⟨rfl, h2⟩ := one_inj h
    obtain ⟨n', rfl, h3⟩ := ones_rest h2
    exact ⟨n', rfl, h3⟩
theorem uq_stuck {T U N R : By} (hT : T = 34 :: (U ++ [34])) (hU : N.flatMap one ++ R = U) (hR : R ≠ []) (h : ∀ j, j < 256 → ¬ one (UInt8.ofNat j) <+: R) : unq T = none := unq_none.2 fun n hn _ => by
  have h1 := (uq_body hT).1 hn
  rw [← hU] at h1
  obtain ⟨n', _, h3⟩ := ones_rest h1
  cases n' with
  | nil => exact hR (by rw [← h3]; rfl)
  | cons c n' =>
    refine h c.toNat c.toNat_lt ?_
    rw [← h3, List.flatMap_cons]
    simp
theorem uq_done {T U N : By} (hT : T = 34 :: (U ++ [34])) (hU : N.flatMap one = U) : unq T = if 40 < N.length then none else some N := by
  split
  · rename_i h
    refine unq_none.2 fun n hn hl => ?_
    have h1 := (uq_body hT).1 hn
    rw [← hU] at h1
    rw [ones_inj h1] at hl; omega
  · rename_i h
    exact unq_some.2 ⟨(uq_body hT).2 hU, by omega⟩
theorem pre_cmp (R O : By) : (((bs R).extract 0 (bs O).size).toList == (bs O).toList) = decide (O <+: R) := by
  rw [str_beq, bs_ext, bs_size, decide_eq_decide, bs_inj]
  simp only [List.drop_zero, Nat.sub_zero]
  constructor
  · intro h; exact ⟨R.drop O.length, by conv => rhs; rw [← List.take_append_drop O.length R, h]⟩
  · rintro ⟨t, rfl⟩; simp
set_option maxRecDepth 100000 in
set_option maxHeartbeats 4000000 in
theorem rUnquote_any (s : ByteArray) (w : World) (hs : s.size ≤ 1000000) :
    Calls Tryz.prog 27 #[.string s] w (LgUnqPost w s.data.toList) := by
  obtain ⟨iU, hU0, hU1, hU2, hU3⟩ := info_parts infoU8
  have hlen : s.data.toList.length = s.size := Array.length_toList
  obtain ⟨T, hT⟩ : ∃ T, T = s.data.toList := ⟨_, rfl⟩
  have hsb : s = bs T := by rw [hT, bs_eta]
  rw [← hT]
  rw [← hT] at hlen
  by_cases h2 : 2 ≤ s.size
  · have z0 : 0 < s.size := Nat.lt_of_lt_of_le (by decide) h2
    have z1 : s.size - 1 < s.size := Nat.sub_lt z0 (by decide)
    obtain ⟨n0, hn0⟩ : ∃ n0, n0 = (s[0]'z0).toNat := ⟨_, rfl⟩
    obtain ⟨n1, hn1⟩ : ∃ n1, n1 = (s[s.size - 1]'z1).toNat := ⟨_, rfl⟩
    have t0 : T.getD 0 0 = s[0]'z0 := hT ▸ byte_at z0
    have t1 : T.getD (T.length - 1) 0 = s[s.size - 1]'z1 := by rw [hlen]; exact hT ▸ byte_at z1
    have hs0 : (s[0]'z0).toNat = n0 := hn0.symm
    have hs1 : (s[s.size - 1]'z1).toNat = n1 := hn1.symm
    have e0 : T.getD 0 0 = 34 ↔ n0 = 34 := by rw [t0, hn0]; exact ⟨fun h => by rw [h]; rfl, fun h => UInt8.toNat_inj.1 h⟩
    have e1 : T.getD (T.length - 1) 0 = 34 ↔ n1 = 34 := by rw [t1, hn1]; exact ⟨fun h => by rw [h]; rfl, fun h => UInt8.toNat_inj.1 h⟩
    have hx : s.extract 1 (s.size - 1) = bs ((T.drop 1).take (T.length - 2)) := by
      conv => lhs; rw [hsb]
      rw [bs_ext, bs_size, show T.length - 1 - 1 = T.length - 2 from by omega]
    have H := Lib.hid (And.intro hT (And.intro hlen (And.intro hsb (And.intro e0 (And.intro e1 hx)))))
    clear hT hlen hsb t0 t1 hn0 hn1 e0 e1 hx
    by_cases c0 : n0 = 34
    · by_cases c1 : n1 = 34
      · have hsp := uq_split (T := T) (by rw [H.out.2.1]; exact h2) (H.out.2.2.2.1.2 c0) (H.out.2.2.2.2.1.2 c1)
        obtain ⟨U, hU⟩ : ∃ U, U = (T.drop 1).take (T.length - 2) := ⟨_, rfl⟩
        rw [← hU] at hsp
        have hUl : U.length ≤ 1000000 := by rw [hU, List.length_take]; have := H.out.2.1; omega
        have O0 : Own w.heap.size w [.own 5 1 none 0 0 [] []] w := by simpa using (Own.start w).new (i := .own 5 1 none 0 0 [] []) (Below.refl _ _) (OwnS.nil _ _ _) (by simp [It.fp])
        have HU := Lib.hid (And.intro hsp (And.intro hU (And.intro hUl O0)))
        clear hsp hU hUl O0
        subst c0 c1
        go_enter Tryz.func27, Tryz.ntmps27
        go_upto_block 0 with fail
        rw [H.out.2.2.2.2.2, ← HU.out.2.1]
        go_wp2_with fail
        go_loopg [0, 4] U.length (fun g s0 o wr => ∃ (R N : By) (m : Nat) (B : Option Addr) (d : Nat) (q : List Nat), g = R.length ∧ s0 = .string (bs R) ∧ o = .slice B m d ∧ m = N.length ∧ N.flatMap one ++ R = U ∧ Own w.heap.size w [.own 5 1 B m d (Lib.byteCells N) q] wr)
        case atStart => exact ⟨U, [], 0, none, 0, [], rfl, rfl, rfl, rfl, rfl, HU.out.2.2.2⟩
        case round =>
          obtain ⟨R, N, m, B, d, q, hg, rfl, rfl, hm, hNR, oo⟩ := hrel
          have hRl : R.length ≤ 1000000 := by have := congrArg List.length hNR; rw [List.length_append] at this; have := HU.out.2.2.1; omega
          have hml : m ≤ 1000000 := by have h1 := congrArg List.length hNR; rw [List.length_append] at h1; have h3 := (ones_len N).1; have := HU.out.2.2.1; omega
          obtain ⟨S, hS⟩ : ∃ S, S = bs R := ⟨_, rfl⟩
          have hSs : S.size = R.length := by rw [hS, bs_size]
          rw [← hS]
          by_cases h0 : 0 < S.size
          · have HR := Lib.hid (And.intro hm (And.intro hNR (And.intro oo (And.intro hS (And.intro hSs (And.intro hg hRl))))))
            have zS : S.size ≤ 1000000 := by omega
            clear hm hNR oo hS hSs hg
            go_wp2_with fail
            go_loopg [0, 4, 5, 6] 256 (fun g s0 o f b wx => ∃ (k : Nat) (found : Bool) (R1 N1 : By) (m1 : Nat) (B1 : Option Addr) (d1 : Nat) (q1 : List Nat), g + k = 256 ∧ b = .int .i64 k ∧ f = .bool found ∧ s0 = .string (bs R1) ∧ o = .slice B1 m1 d1 ∧ m1 = N1.length ∧ Own w.heap.size w [.own 5 1 B1 m1 d1 (Lib.byteCells N1) q1] wx ∧ (found = false → R1 = R ∧ N1 = N ∧ ∀ j, j < k → ¬ one (UInt8.ofNat j) <+: R) ∧ (found = true → ∃ c, R = one c ++ R1 ∧ N1 = N ++ [c]))
            case atStart => exact ⟨0, false, R, N, m, B, d, q, rfl, rfl, rfl, by rw [HR.out.2.2.2.1], rfl, HR.out.1, HR.out.2.2.1, fun _ => ⟨rfl, rfl, fun j hj => by omega⟩, fun h => by cases h⟩
            case round =>
              obtain ⟨k, found, R1, N1, m1, B1, d1, q1, hk, rfl, rfl, rfl, rfl, hm1, oo, hf0, hf1⟩ := hrel
              cases found
              · obtain ⟨rfl, rfl, hno⟩ := hf0 rfl
                clear hf0 hf1
                by_cases hlt : k < 256
                · have HI := Lib.hid (And.intro hm1 (And.intro oo hno))
                  clear hm1 oo hno
                  have zm : m1 ≤ 1000000 := by have h1 := HI.out.1; have h3 := HR.out.1; omega
                  obtain ⟨c, hc⟩ : ∃ c, c = UInt8.ofNat k := ⟨_, rfl⟩
                  have hck : c.toNat = k := by rw [hc]; exact UInt8.toNat_ofNat_of_lt' hlt
                  obtain ⟨X, hX⟩ : ∃ X, X = bs R1 := ⟨_, rfl⟩
                  obtain ⟨O, hO⟩ : ∃ O, O = bs (one c) := ⟨_, rfl⟩
                  have zO : 1 ≤ O.size ∧ O.size ≤ 4 := by rw [hO, bs_size]; exact one_len c
                  have zX : X.size ≤ 1000000 := by rw [hX, bs_size]; exact HR.out.2.2.2.2.2.2
                  have ko := rOne_any c wr
                  rw [hck, ← hO] at ko
                  have hcmp := pre_cmp R1 (one c)
                  rw [← hX, ← hO] at hcmp
                  have hcv : IntKind.u8.wrap (k : Int) = (k : Int) := by
                    show (k : Int) % 256 = k
                    omega
                  rw [← hX]
                  by_cases hp : one c <+: R1
                  · rw [decide_eq_true hp] at hcmp
                    obtain ⟨t, ht⟩ := hp
                    have hle : O.size ≤ X.size := by rw [hO, hX, bs_size, bs_size, ← ht, List.length_append]; omega
                    have hx2 : X.extract O.size X.size = bs t := by
                      rw [hX, bs_ext, hO, bs_size, bs_size, ← ht, List.drop_left, List.take_of_length_le (by simp)]
                    have HP := Lib.hid (And.intro ko (And.intro ht (And.intro hx2 hck)))
                    clear ko ht hx2 hck hc hX hO
                    go_wp2_with (first
                      | (go_at_call 82; refine HP.out.1.mono ?_; rintro e w8 ⟨rfl, b8⟩; have HW := Lib.hid (HI.out.2.1.below b8); clear b8)
                      | (at_builtin
                         refine wpList_append_S (size := 1) rfl (.tmp 56) (.tmp 59) 102 rfl iU _ 1 Tryz.underlying102 hU0 hU1 hU2 (by decide) hU3 rfl (A := B1) (n := m1) (c := d1) (xs := Lib.byteCells N1) (fp := q1) (by simp [Act.eval]) ⟨w8.heap.size, 0, none⟩ (by simp [Act.eval]) [Value.int .u8 (k : Nat)] (((HW.out).below ((Below.refl _ _).alloc (Nat.le_refl _) _)).get 0 rfl) rfl ?_ (by intro u hu; simp at hu; rcases hu with rfl; rfl) (by omega) (by decide) ?_
                         · intro u v hv
                           rw [show (⟨w8.heap.size, 0, none⟩ : Addr).add u = ⟨w8.heap.size, u, none⟩ from by simp [Addr.add]; omega, World.cell?_alloc_new]
                           simpa using hv
                         intro g c' w5 q1 q2 q3 q4
                         have SB := ((HW.out).below ((Below.refl _ _).alloc (Nat.le_refl _) (.cells #[Value.int .u8 (k : Nat)] 5))).upd 0 rfl (i' := It.own 5 1 (some ⟨g, 0, none⟩) (m1 + 1) c' (Lib.byteCells N1 ++ [Value.int .u8 (k : Nat)]) [g]) q4 q1 (fun u hu => by rw [List.mem_singleton.1 hu]; rcases q2 with e | e; exact .inl e; exact .inr (Nat.le_of_eq e))
                         have HQ := Lib.hid SB
                         clear SB q1 q2 q3 q4))
                    go_roundg (gk - 1)
                    case measure => omega
                    case rel =>
                      refine ⟨k + 1, true, t, N1 ++ [c], m1 + 1, some ⟨g, 0, none⟩, c', [g], by omega, by go_num, rfl, by rw [HP.out.2.2.1], rfl, by simp [HI.out.1], ?_, (fun h => by cases h), fun _ => ⟨c, HP.out.2.1.symm, rfl⟩⟩
                      have := HQ.out
                      rw [show Lib.byteCells N1 ++ [Value.int .u8 k] = Lib.byteCells (N1 ++ [c]) from by simp [Lib.byteCells, HP.out.2.2.2]] at this
                      exact this
                  · rw [decide_eq_false hp] at hcmp
                    have hnx : ∀ j, j < k + 1 → ¬ one (UInt8.ofNat j) <+: R1 := fun j hj => by
                      rcases Nat.lt_or_ge j k with h | h
                      · exact HI.out.2.2 j h
                      · obtain rfl : j = k := by omega
                        rw [← hc]; exact hp
                    have HP := Lib.hid (And.intro ko (And.intro hnx hX))
                    clear ko hnx hck hc hX hO hp
                    by_cases hle : O.size ≤ X.size
                    · go_wp2_with (go_at_call 82; refine HP.out.1.mono ?_; rintro e w8 ⟨rfl, b8⟩; have HW := Lib.hid (HI.out.2.1.below b8); clear b8)
                      go_roundg (gk - 1)
                      case measure => omega
                      case rel => exact ⟨k + 1, false, R1, N1, m1, B1, d1, q1, by omega, by go_num, rfl, by rw [HP.out.2.2], rfl, HI.out.1, HW.out, fun _ => ⟨rfl, rfl, HP.out.2.1⟩, fun h => by cases h⟩
                    · go_wp2_with (go_at_call 82; refine HP.out.1.mono ?_; rintro e w8 ⟨rfl, b8⟩; have HW := Lib.hid (HI.out.2.1.below b8); clear b8)
                      go_roundg (gk - 1)
                      case measure => omega
                      case rel => exact ⟨k + 1, false, R1, N1, m1, B1, d1, q1, by omega, by go_num, rfl, by rw [HP.out.2.2], rfl, HI.out.1, HW.out, fun _ => ⟨rfl, rfl, HP.out.2.1⟩, fun h => by cases h⟩
                · obtain rfl : k = 256 := by omega
                  have hun := uq_stuck HU.out.1 HR.out.2.1 (fun e => by have := HR.out.2.2.2.2.1; rw [e, List.length_nil] at this; omega) hno
                  have HV := Lib.hid (And.intro (unqV_none hun) oo)
                  clear hun hno oo hm1
                  go_wp2_with fail
                  go_ret2
                  exact ⟨by rw [HV.out.1.1, HV.out.1.2]; rfl, HV.out.2.bel⟩
              · obtain ⟨c, hc1, hc2⟩ := hf1 rfl
                clear hf0 hf1
                have HI := Lib.hid (And.intro hm1 (And.intro oo (And.intro hc1 hc2)))
                clear hm1 oo hc1 hc2
                by_cases hlt : k < 256
                · go_wp2_with fail
                  go_roundg R1.length
                  case measure =>
                    have h1 := HR.out.2.2.2.2.2.1
                    have h2 := congrArg List.length HI.out.2.2.1
                    rw [List.length_append] at h2
                    have h3 := (one_len c).1
                    omega
                  case rel =>
                    refine ⟨R1, N1, m1, B1, d1, q1, rfl, rfl, rfl, HI.out.1, ?_, HI.out.2.1⟩
                    rw [HI.out.2.2.2, List.flatMap_append, ← HR.out.2.1, HI.out.2.2.1]
                    simp
                · go_wp2_with fail
                  go_roundg R1.length
                  case measure =>
                    have h1 := HR.out.2.2.2.2.2.1
                    have h2 := congrArg List.length HI.out.2.2.1
                    rw [List.length_append] at h2
                    have h3 := (one_len c).1
                    omega
                  case rel =>
                    refine ⟨R1, N1, m1, B1, d1, q1, rfl, rfl, rfl, HI.out.1, ?_, HI.out.2.1⟩
                    rw [HI.out.2.2.2, List.flatMap_append, ← HR.out.2.1, HI.out.2.2.1]
                    simp
          · have hR0 : R = [] := List.length_eq_zero_iff.1 (by omega)
            rw [hR0, List.append_nil] at hNR
            have hun := uq_done HU.out.1 hNR
            by_cases h4 : 40 < m
            · rw [if_pos (by omega)] at hun
              have HV := Lib.hid (And.intro (unqV_none hun) oo)
              clear hun hNR oo hS hSs hg hR0
              go_wp2_with fail
              go_ret2
              exact ⟨by rw [HV.out.1.1, HV.out.1.2]; rfl, HV.out.2.bel⟩
            · rw [if_neg (by omega)] at hun
              have hcv := conv_own (oo.owns 0 rfl)
              obtain ⟨V, hV⟩ : ∃ V, V = bs N := ⟨_, rfl⟩
              rw [← hV] at hcv
              have hcc : m ≤ d := (oo.owns 0 rfl).ge
              have hcm : d ≤ 9223372036854775807 := (oo.owns 0 rfl).cap
              have HV := Lib.hid (And.intro (unqV_some hun) (And.intro oo hV))
              clear hun hNR oo hS hSs hg hR0 hm hV
              go_wp2_with fail
              go_ret2
              exact ⟨by rw [HV.out.1.1, HV.out.1.2, HV.out.2.2]; rfl, HV.out.2.1.bel⟩
      · have hno := uq_none (T := T) (by rintro ⟨_, _, h⟩; exact c1 (H.out.2.2.2.2.1.1 h))
        have HU := Lib.hid (unqV_none hno)
        clear hno
        subst c0
        have hb : ((n1 : Int) != 34) = true := by simp; omega
        go_enter Tryz.func27, Tryz.ntmps27
        go_wp2_with fail
        go_ret2
        exact ⟨by rw [HU.out.1, HU.out.2]; rfl, Below.refl _ _⟩
    · have hno := uq_none (T := T) (by rintro ⟨_, h, _⟩; exact c0 (H.out.2.2.2.1.1 h))
      have HU := Lib.hid (unqV_none hno)
      clear hno
      have hb : ((n0 : Int) != 34) = true := by simp; omega
      go_enter Tryz.func27, Tryz.ntmps27
      go_wp2_with fail
      go_ret2
      exact ⟨by rw [HU.out.1, HU.out.2]; rfl, Below.refl _ _⟩
  · have hno := uq_none (T := T) (by rintro ⟨h, _⟩; omega)
    have HU := Lib.hid (unqV_none hno)
    clear hno hT hlen hsb
    have hb : decide ((s.size : Int) < 2) = true := decide_eq_true (by omega)
    go_enter Tryz.func27, Tryz.ntmps27
    go_wp2_with fail
    go_ret2
    exact ⟨by rw [HU.out.1, HU.out.2]; rfl, Below.refl _ _⟩
end Go.Proofs.YtaokegobilphnaaGreatDoor
/- polynyaref13.entry (tools/lger.in by lgen.py) -/
namespace Go.Proofs.YtaokegobilphnaaGreatDoor
open Go Go.RowKit Go.Shelf Go.Proofs Sp Lg
set_option linter.unusedVariables false
set_option linter.unusedSimpArgs false

theorem occ_end {T : By} {i : Nat} (h : T.length ≤ i + 1) : Lib.occAt T [32, 34] i = false := by
  unfold Lib.occAt
  have : (T.drop i).length ≤ 1 := by rw [List.length_drop]; omega
  match hq : T.drop i, this with
  | [], _ => rfl
  | [a], _ => simp [List.isPrefixOf]
  | a :: b :: r, h => simp at h
theorem occ_mid {T : By} {i : Nat} (h : i + 1 < T.length) : Lib.occAt T [32, 34] i = (decide (T[i] = 32) && decide (T[i + 1] = 34)) := by
  unfold Lib.occAt
  rw [List.drop_eq_getElem_cons (show i < T.length by omega), List.drop_eq_getElem_cons h]
  simp only [List.isPrefixOf, Bool.and_true]
  rw [Bool.eq_iff_iff]
  simp only [Bool.and_eq_true, beq_iff_eq, decide_eq_true_eq]
  constructor
  · rintro ⟨h1, h2⟩; exact ⟨h1.symm, h2.symm⟩
  · rintro ⟨h1, h2⟩; exact ⟨h1.symm, h2.symm⟩
theorem rent_results {F : Func} {r s : Nat} (hF : F.results = #[.cell r 26, .tmp s]) {W : World} {b : Nat} {v0 v1 v2 v3 v4 : Value} (h : W.heap[b]? = some (.cells #[v0, v1, v2, v3, v4] 26 (0, 0))) (tmps : Array Value) (v : Value) (hr : tmps.getD r undef = .pointer (some ⟨b, 0, none⟩)) (hs : tmps.getD s undef = v) :
    (results F tmps).run Tryz.prog W = .ok (.tuple #[.agg #[v0, v1, v2, v3, v4], v]) W := by
  have g8 : tmps[r]?.getD undef = .pointer (some ⟨b, 0, none⟩) := by simpa using hr
  have g9 : tmps[s]?.getD undef = v := by simpa using hs
  have c0 : W.cell? ⟨b, 0, none⟩ = some v0 := (cell_of_heap h 0).trans rfl
  have c1 : W.cell? ⟨b, 1, none⟩ = some v1 := (cell_of_heap h 1).trans rfl
  have c2 : W.cell? ⟨b, 2, none⟩ = some v2 := (cell_of_heap h 2).trans rfl
  have c3 : W.cell? ⟨b, 3, none⟩ = some v3 := (cell_of_heap h 3).trans rfl
  have c4 : W.cell? ⟨b, 4, none⟩ = some v4 := (cell_of_heap h 4).trans rfl
  simp [results, hF, g8, g9, asAddr, go_sem, c0, c1, c2, c3, c4]
theorem allN_mem : ∀ {l : List By} {f : By}, f ∈ l → numB f = none → allN l = none
  | a :: l, f, hm, hf => by
    rw [allN]
    rcases List.mem_cons.1 hm with rfl | hm
    · rw [hf]
    · rw [allN_mem hm hf]
      cases numB a <;> rfl
theorem er_next {F : List By} {k : Nat} (hk : k < F.length) (h2 : k ≠ 2) : (F.take (k + 1)).eraseIdx 2 = (F.take k).eraseIdx 2 ++ [F[k]] := by
  rw [List.take_succ_eq_append_getElem hk]
  have hl : (F.take k).length = k := by rw [List.length_take]; omega
  rcases Nat.lt_or_ge 2 k with h | h
  · rw [List.eraseIdx_append_of_lt_length (by omega)]
  · rw [List.eraseIdx_of_length_le (by rw [List.length_append, hl]; simp; omega), List.eraseIdx_of_length_le (by omega)]
theorem er_two {F : List By} : (F.take (2 + 1)).eraseIdx 2 = (F.take 2).eraseIdx 2 := by
  match F with
  | [] => rfl
  | [_] => rfl
  | [_, _] => rfl
  | _ :: _ :: _ :: _ => rfl
theorem er_mem {F : List By} {k : Nat} (hk : k < F.length) (h2 : k ≠ 2) : F[k] ∈ F.eraseIdx 2 := List.mem_eraseIdx_iff_getElem.2 ⟨k, hk, h2, rfl⟩
theorem er_len {F : List By} {k : Nat} (hk : k ≤ F.length) {vs : List Nat} (h : allN ((F.take k).eraseIdx 2) = some vs) : vs.length = if k ≤ 2 then k else k - 1 := by
  rw [allN_len h, List.length_eraseIdx]
  have hl : (F.take k).length = k := by rw [List.length_take]; omega
  rw [hl]
  split <;> split <;> omega
theorem er_args {F : List By} {k : Nat} (hk : k ≤ F.length) {vs : List Nat} (h : allN ((F.take k).eraseIdx 2) = some vs) : (vs.drop 2).length = k - 3 := by
  rw [List.length_drop, er_len hk h]
  split <;> omega
/-- an entry's cells -/
abbrev eR (m p : Int) (V : ByteArray) (A : Option Addr) (n c : Nat) (N : ByteArray) : Obj := .cells #[.int .i64 m, .int .i64 p, .string V, .slice A n c, .string N] 26
set_option maxRecDepth 100000 in
set_option maxHeartbeats 4000000 in
theorem rEntry_any (s : ByteArray) (w : World) (hs : s.size ≤ 1000000) :
    Calls Tryz.prog 76 #[.string s] w (EnyPost w s.data.toList) := by
  have hlen : s.data.toList.length = s.size := Array.length_toList
  obtain ⟨T, hT⟩ : ∃ T, T = s.data.toList := ⟨_, rfl⟩
  rw [← hT]
  obtain ⟨iI, hI0, hI1, hI2, hI3⟩ := info_parts infoLgI
  obtain ⟨rb, hrb⟩ : ∃ b, b = w.heap.size := ⟨_, rfl⟩
  obtain ⟨xb, hxb⟩ : ∃ b, b = (w.alloc (eR 0 0 ⟨#[]⟩ none 0 0 ⟨#[]⟩)).heap.size := ⟨_, rfl⟩
  obtain ⟨W2, hW2⟩ : ∃ W, W = (w.alloc (eR 0 0 ⟨#[]⟩ none 0 0 ⟨#[]⟩)).alloc (eR 0 0 ⟨#[]⟩ none 0 0 ⟨#[]⟩) := ⟨_, rfl⟩
  have O2 : Own w.heap.size w [.blk rb (eR 0 0 ⟨#[]⟩ none 0 0 ⟨#[]⟩), .blk xb (eR 0 0 ⟨#[]⟩ none 0 0 ⟨#[]⟩)] W2 := by
    rw [hW2, hrb, hxb]; exact ((Own.start w).alloc _).alloc _
  have hxb2 : xb = rb + 1 := by rw [hxb, hrb, World.size_alloc]
  have H := Lib.hid (And.intro hT (And.intro O2 (And.intro True.intro (And.intro hrb hlen))))
  clear hT hlen O2
  go_enter Tryz.func76, Tryz.ntmps76
  go_upto_region 2 with fail
  rw [← hW2, ← hrb, ← hxb2]
  have HX := Lib.hid hxb2
  clear hW2 hxb hrb hxb2
  go_upto_block 0 with fail
  go_cut [3, 5, 6, 7, 8] from 14 to 47 (fun ok s0 i nt er wz => ok = .bool false ∧ ∃ note : By, s0 = .string (bs (headP T)) ∧ noteP T = some note ∧ note.length ≤ 1000000 ∧ Own w.heap.size w [.blk rb (eR 0 0 ⟨#[]⟩ none 0 0 ⟨#[]⟩), .blk xb (eR 0 0 ⟨#[]⟩ none 0 0 (bs note))] wz)
  case first =>
    go_wp2_with fail
    go_loopg [3, 5, 6] s.size (fun g ok s0 i wr => ∃ k : Nat, g + k = s.size ∧ ok = .bool false ∧ s0 = .string s ∧ i = .int .i64 k ∧ (∀ j, j < k → Lib.occAt T [32, 34] j = false) ∧ wr = W2)
    case atStart => exact ⟨0, rfl, rfl, rfl, rfl, fun j hj => by omega, rfl⟩
    case round =>
      obtain ⟨k, hk, rfl, rfl, rfl, hoc, rfl⟩ := hrel
      by_cases hlt : k + 1 < s.size
      · have hk1 : k < s.size := Nat.lt_of_succ_lt hlt
        have hTs : T.length = s.size := by rw [H.out.1]; exact H.out.2.2.2.2
        obtain ⟨n0, hn0⟩ : ∃ n0, n0 = (s[k]'hk1).toNat := ⟨_, rfl⟩
        obtain ⟨n1, hn1⟩ : ∃ n1, n1 = (s[k + 1]'hlt).toNat := ⟨_, rfl⟩
        have hs0 : (s[k]'hk1).toNat = n0 := hn0.symm
        have hs1 : (s[k + 1]'hlt).toNat = n1 := hn1.symm
        have hoq : Lib.occAt T [32, 34] k = (decide (n0 = 32) && decide (n1 = 34)) := by
          rw [occ_mid (by omega)]
          have t0 : T[k]'(by omega) = s[k]'hk1 := by have := H.out.1; subst this; rw [Array.getElem_toList]; rfl
          have t1 : T[k + 1]'(by omega) = s[k + 1]'hlt := by have := H.out.1; subst this; rw [Array.getElem_toList]; rfl
          rw [t0, t1]
          congr 1
          · rw [decide_eq_decide, hn0]; exact ⟨fun h => by rw [h]; rfl, fun h => UInt8.toNat_inj.1 h⟩
          · rw [decide_eq_decide, hn1]; exact ⟨fun h => by rw [h]; rfl, fun h => UInt8.toNat_inj.1 h⟩
        have m1 : IntKind.i64.wrap ((k : Int) + 1) = (k : Int) + 1 := IntWalk.i64_in _ (by omega)
        have HO := Lib.hid (And.intro hoc (And.intro hoq hTs))
        clear hoc hoq hn0 hn1 hTs
        by_cases c0 : n0 = 32
        · subst c0
          by_cases c1 : n1 = 34
          · subst c1
            have hiN : noteAt T = k := Lib.index_first (by have := HO.out.2.2; omega) (by rw [HO.out.2.1]; rfl) HO.out.1
            have hx : s.extract (k + 1) s.size = bs (T.drop (k + 1)) := by
              rw [H.out.1]
              conv => lhs; rw [← bs_eta s]
              rw [bs_ext, List.take_of_length_le]
              rw [List.length_drop, bs_size]; omega
            have hx0 : s.extract 0 k = bs (T.take k) := by
              rw [H.out.1]
              conv => lhs; rw [← bs_eta s]
              rw [bs_ext]; simp
            have hhd : headP T = T.take k := by unfold headP; rw [hiN, if_pos (by omega)]; simp
            have hnp : noteP T = unq (T.drop (k + 1)) := by unfold noteP; rw [hiN, if_pos (by omega)]; simp
            have kU := rUnquote_any (s.extract (k + 1) s.size) wr (by rw [hx, bs_size, List.length_drop]; have := HO.out.2.2; omega)
            rw [show (s.extract (k + 1) s.size).data.toList = T.drop (k + 1) from by rw [hx]] at kU
            obtain ⟨V, hV⟩ : ∃ V, V = bs (lgUnqV (T.drop (k + 1))) := ⟨_, rfl⟩
            cases hq : unq (T.drop (k + 1)) with
            | none =>
              have kU2 : Calls Tryz.prog 27 #[.string (s.extract (k + 1) s.size)] wr fun e w' => e = .returned (.tuple #[.string V, .int .i64 3]) ∧ Below wr.heap.size wr w' := kU.mono fun e w' h => by
                obtain ⟨h1, h2⟩ := h
                refine ⟨?_, h2⟩
                rw [h1, hV]; unfold lgUnqE; rw [hq]; rfl
              have hno : entB T = none := by rw [← entR_eq]; unfold entR; rw [hnp, hq]
              have HU := Lib.hid (And.intro kU2 hno)
              clear kU kU2 hno hV hq hx hx0 hhd hnp hiN
              go_upto_region 9 with (go_at_call 27; refine HU.out.1.mono ?_; rintro e W4 ⟨rfl, b4⟩; have h4 := H.out.2.1.below b4; have H4 := Lib.hid h4; clear h4 b4)
              have hr4 := H4.out.heap 0 rfl
              have r0 := (cell_of_heap hr4 0).trans rfl
              have r1 := (cell_of_heap hr4 1).trans rfl
              have r2 := (cell_of_heap hr4 2).trans rfl
              have r3 := (cell_of_heap hr4 3).trans rfl
              have r4 := (cell_of_heap hr4 4).trans rfl
              have fr0 := frozen_of_heap hr4 0
              have fr1 := frozen_of_heap hr4 1
              have fr2 := frozen_of_heap hr4 2
              have fr3 := frozen_of_heap hr4 3
              have fr4 := frozen_of_heap hr4 4
              have zr := heap_lt hr4
              clear hr4
              go_wp2_with fail
              refine bodyPost_ret (rent_results rfl (put5_heap (H4.out.heap 0 rfl) _ _ _ _ _) _ _ rfl rfl) rfl ?_
              exact eny_no HU.out.2 (H4.out.set 0 rfl (put5_keep _ _ _ _ _ _ _) (put5_heap (H4.out.heap 0 rfl) _ _ _ _ _)).bel
            | some note =>
              have hnl := (unq_some.1 hq).2
              have kU2 : Calls Tryz.prog 27 #[.string (s.extract (k + 1) s.size)] wr fun e w' => e = .returned (.tuple #[.string V, .int .i64 0]) ∧ Below wr.heap.size wr w' := kU.mono fun e w' h => by
                obtain ⟨h1, h2⟩ := h
                refine ⟨?_, h2⟩
                rw [h1, hV]; unfold lgUnqE; rw [hq]; rfl
              have hVn : V = bs note := by rw [hV]; unfold lgUnqV; rw [hq]; rfl
              have HU := Lib.hid (And.intro kU2 (And.intro hVn (And.intro hhd (And.intro hnp (And.intro hq (And.intro hnl hx0))))))
              clear kU kU2 hV hq hx hx0 hhd hnp hVn hnl hiN
              go_upto_region 10 with (go_at_call 27; refine HU.out.1.mono ?_; rintro e W4 ⟨rfl, b4⟩; have h4 := H.out.2.1.below b4; have H4 := Lib.hid h4; clear h4 b4)
              have hx4 := H4.out.heap 1 rfl
              have r0 := (cell_of_heap hx4 0).trans rfl
              have r1 := (cell_of_heap hx4 1).trans rfl
              have r2 := (cell_of_heap hx4 2).trans rfl
              have r3 := (cell_of_heap hx4 3).trans rfl
              have r4 := (cell_of_heap hx4 4).trans rfl
              have fr0 := frozen_of_heap hx4 0
              have fr1 := frozen_of_heap hx4 1
              have fr2 := frozen_of_heap hx4 2
              have fr3 := frozen_of_heap hx4 3
              have fr4 := frozen_of_heap hx4 4
              have zr := heap_lt hx4
              clear hx4
              go_wp2_with fail
              go_meet
              refine ⟨rfl, note, ?_, ?_, Nat.le_trans HU.out.2.2.2.2.2.1 (by decide), ?_⟩
              · rw [HU.out.2.2.1, HU.out.2.2.2.2.2.2]
              · rw [HU.out.2.2.2.1]; exact HU.out.2.2.2.2.1
              · have := H4.out.set 1 rfl ((Keep.refl [xb] W4).setCell (p := ⟨xb, 4, none⟩) (.inl (by simp)) (.string V)) (heap_set (H4.out.heap 1 rfl) 4 _)
                rw [HU.out.2.1] at this ⊢
                exact this
          · have hb : ((n1 : Int) == 34) = false := by rw [beq_eq_false_iff_ne]; omega
            go_wp2_with fail
            go_roundg (gk - 1)
            case measure => omega
            case rel =>
              refine ⟨k + 1, by omega, rfl, rfl, by go_num, fun j hj => ?_, rfl⟩
              rcases Nat.lt_or_ge j k with h | h
              · exact HO.out.1 j h
              · obtain rfl : j = k := by omega
                rw [HO.out.2.1]; simp [c1]
        · have hb : ((n0 : Int) == 32) = false := by rw [beq_eq_false_iff_ne]; omega
          go_wp2_with fail
          go_roundg (gk - 1)
          case measure => omega
          case rel =>
            refine ⟨k + 1, by omega, rfl, rfl, by go_num, fun j hj => ?_, rfl⟩
            rcases Nat.lt_or_ge j k with h | h
            · exact HO.out.1 j h
            · obtain rfl : j = k := by omega
              rw [HO.out.2.1]; simp [c0]
      · have hTs : T.length = s.size := by rw [H.out.1]; exact H.out.2.2.2.2
        have hiN : noteAt T = -1 := Lib.index_none fun j hj => by
          rcases Nat.lt_or_ge j k with h | h
          · exact hoc j h
          · exact occ_end (by omega)
        have HN := Lib.hid hiN
        clear hoc hiN hTs
        go_wp2_with fail
        go_meet
        refine ⟨rfl, [], ?_, ?_, by simp, H.out.2.1⟩
        · have hhd : headP T = T := by unfold headP; rw [HN.out, if_neg (by decide)]
          rw [hhd, H.out.1, bs_eta]
        · unfold noteP; rw [HN.out, if_neg (by decide)]
  case rest =>
  obtain ⟨rfl, note, rfl, h2, h3, h4⟩ := hcut
  obtain ⟨wz, rfl, h4⟩ : ∃ wz, wz = _ ∧ Own w.heap.size w [.blk rb (eR 0 0 ⟨#[]⟩ none 0 0 ⟨#[]⟩), .blk xb (eR 0 0 ⟨#[]⟩ none 0 0 (bs note))] wz := ⟨_, rfl, h4⟩
  apply_assumption
  obtain ⟨F, hF⟩ : ∃ F, F = fields (headP T) := ⟨_, rfl⟩
  obtain ⟨S, hS⟩ : ∃ S, S = bs (headP T) := ⟨_, rfl⟩
  obtain ⟨n, hn⟩ : ∃ n, n = F.length := ⟨_, rfl⟩
  obtain ⟨N, hN⟩ : ∃ N, N = bs note := ⟨_, rfl⟩
  have hTl : T.length ≤ 1000000 := by have := H.out.2.2.2.2; rw [← H.out.1] at this; omega
  have hhl : (headP T).length ≤ 1000000 := by unfold headP; split; (rw [List.length_take]; omega); exact hTl
  have hnl : n ≤ 1000001 := by rw [hn, hF]; have := fields_len (headP T); omega
  have hFl : ∀ f ∈ F, f.length ≤ 1000000 := fun f hf => by
    have h5 : (joinS F).length = (headP T).length := by rw [hF, join_fields]
    have key : ∀ (l : List By), ∀ f ∈ l, f.length ≤ (joinS l).length := by
      intro l
      induction l with
      | nil => intro f hf; cases hf
      | cons a l ih =>
        intro f hf
        cases l with
        | nil => simp at hf; subst hf; exact Nat.le_refl _
        | cons b l =>
          rw [Lg.join_cons (by simp), List.length_append, List.length_cons]
          rcases List.mem_cons.1 hf with rfl | hf
          · omega
          · have := ih f hf; omega
    have := key F f hf
    omega
  rw [← hN] at h4
  have kS : Calls Tryz.prog 94 #[.string S] wz fun e w' => ∃ B cB fq, e = .returned (.slice B n cB) ∧ Own w.heap.size w [.blk rb (eR 0 0 ⟨#[]⟩ none 0 0 ⟨#[]⟩), .blk xb (eR 0 0 ⟨#[]⟩ none 0 0 N), .own 9 1 B n cB (strs F) fq, .own 3 1 none 0 0 [] []] w' := by
    have h5 := rSplit_any S wz (by rw [hS, bs_size]; exact hhl)
    rw [show S.data.toList = headP T from by rw [hS], ← hF, ← hn] at h5
    refine h5.mono ?_
    rintro e w' ⟨B, cB, fq, rfl, h6, h7, h8⟩
    refine ⟨B, cB, fq, rfl, ?_⟩
    have h9 := h4.new (i := .own 9 1 B n cB (strs F) fq) h8 h6 h7
    have h10 := h9.new (i := .own 3 1 none 0 0 [] []) (Below.refl _ _) (OwnS.nil _ _ _) (by simp [It.fp])
    simpa using h10
  rw [← hS]
  have Hz := Lib.hid (And.intro h2 (And.intro h3 (And.intro hF (And.intro hn (And.intro hN (And.intro hFl kS))))))
  clear h2 h3 h4 hF hn hN hTl hhl hFl kS hS
  have hent0 : (∃ f ∈ F.eraseIdx 2, numB f = none) → entB T = none := fun ⟨f, hf, hnf⟩ => by
    rw [← entR_eq]; unfold entR; rw [Hz.out.1]; simp only
    rw [← Hz.out.2.2.1, allN_mem hf hnf]
  have hent : ∀ vs, allN (F.eraseIdx 2) = some vs → entB T = if okE (mkE F vs note) = true ∧ told (mkE F vs note) = T then some (mkE F vs note) else none := fun vs hvs => by
    rw [← entR_eq]; unfold entR; rw [Hz.out.1]; simp only
    rw [← Hz.out.2.2.1, hvs]
  have HE := Lib.hid (And.intro hent hent0)
  clear hent hent0
  go_wp2_with (go_at_call 94; refine Hz.out.2.2.2.2.2.2.mono ?_; rintro e w6 ⟨B, cB, fq, rfl, o6⟩; have H6 := Lib.hid o6; clear o6)
  go_loopg [3, 10, 11] n (fun g ok i nn wr => ∃ (k : Nat) (A : Option Addr) (c : Nat) (q vs : List Nat), g + k = n ∧ ok = .bool false ∧ i = .int .i64 k ∧ allN ((F.take k).eraseIdx 2) = some vs ∧ Own w.heap.size w [.blk rb (eR 0 0 ⟨#[]⟩ none 0 0 ⟨#[]⟩), .blk xb (eR (vs.getD 0 0 : Nat) (vs.getD 1 0 : Nat) (bs ((F.take k).getD 2 [])) A (k - 3) c N), .own 9 1 B n cB (strs F) fq, .own 3 1 A (k - 3) c (ints ((vs.drop 2).map Int.ofNat)) q] wr)
  case atStart => exact ⟨0, none, 0, [], [], rfl, rfl, rfl, rfl, H6.out⟩
  case round =>
    obtain ⟨k, A, c, q, vs, hk, rfl, rfl, hvs, oo⟩ := hrel
    obtain ⟨i0, hi0⟩ : ∃ i : Nat, i = vs.getD 0 0 := ⟨_, rfl⟩
    obtain ⟨i1, hi1⟩ : ∃ i : Nat, i = vs.getD 1 0 := ⟨_, rfl⟩
    obtain ⟨V2, hV2⟩ : ∃ V, V = bs ((F.take k).getD 2 []) := ⟨_, rfl⟩
    obtain ⟨na, hna⟩ : ∃ n, n = k - 3 := ⟨_, rfl⟩
    have hkF : k ≤ F.length := by have := Hz.out.2.2.2.1; omega
    have hal := er_args hkF hvs
    have hvl := er_len hkF hvs
    rw [← hi0, ← hi1, ← hV2, ← hna] at oo
    rw [← hna] at hal
    by_cases hlt : k < n
    · have hkG : k < F.length := by have := Hz.out.2.2.2.1; omega
      obtain ⟨f, hf⟩ : ∃ f, f = F[k] := ⟨_, rfl⟩
      obtain ⟨fb, hfb⟩ : ∃ b, b = bs f := ⟨_, rfl⟩
      obtain ⟨g0, cur, rfl, _, hh, _, _, _, hcu⟩ := (oo.owns 2 rfl).2.resolve_left (by rintro ⟨_, h, _⟩; omega)
      have c0 : wr.cell? ⟨g0, k, none⟩ = some (.string fb) := (cell_of_heap hh k).trans (hcu k _ (by simp [strs, hkG, hf, hfb]))
      have zl := heap_lt hh
      have hx4 := oo.heap 1 rfl
      have x0 := (cell_of_heap hx4 0).trans rfl
      have x1 := (cell_of_heap hx4 1).trans rfl
      have x2 := (cell_of_heap hx4 2).trans rfl
      have x3 := (cell_of_heap hx4 3).trans rfl
      have x4 := (cell_of_heap hx4 4).trans rfl
      have fx0 := frozen_of_heap hx4 0
      have fx1 := frozen_of_heap hx4 1
      have fx2 := frozen_of_heap hx4 2
      have fx3 := frozen_of_heap hx4 3
      have fx4 := frozen_of_heap hx4 4
      have zx := heap_lt hx4
      clear hx4 hh hcu
      by_cases hk2 : k = 2
      · subst hk2
        have hn3 : vs.length = 2 := by rw [hvl]; rfl
        have HN := Lib.hid (And.intro oo (And.intro hvs (And.intro hn3 (And.intro hi0 (And.intro hi1 (And.intro hna (And.intro hf hfb)))))))
        clear oo hvs hn3 hi0 hi1 hna hf hfb hal hvl hV2 hkF
        go_wp2_with fail
        go_roundg (gk - 1)
        case measure => omega
        case rel =>
          refine ⟨3, A, c, q, vs, by omega, rfl, by go_num, by rw [er_two]; exact HN.out.2.1, ?_⟩
          have := HN.out.1.set 1 rfl ((Keep.refl [xb] wr).setCell (p := ⟨xb, 2, none⟩) (.inl (by simp)) (.string fb)) (heap_set (HN.out.1.heap 1 rfl) 2 _)
          rw [← HN.out.2.2.2.1, ← HN.out.2.2.2.2.1, show 3 - 3 = na from by rw [HN.out.2.2.2.2.2.1], show bs ((F.take 3).getD 2 []) = fb from by rw [HN.out.2.2.2.2.2.2.2, HN.out.2.2.2.2.2.2.1]; simp [hkG]]
          exact this
      · have hb2 : ((k : Int) == 2) = false := by rw [beq_eq_false_iff_ne]; omega
        have kn := rNumber_any fb wr (by rw [hfb, bs_size]; exact Hz.out.2.2.2.2.2.1 f (by rw [hf]; exact List.getElem_mem _))
        rw [show fb.data.toList = f from by rw [hfb]] at kn
        have hsn := allN_snoc ((F.take k).eraseIdx 2) f
        have hen := er_next hkG hk2
        rw [hf, ← hen, ← hf, hvs] at hsn
        cases hnf : numB f with
        | none =>
          have hno := HE.out.2 ⟨f, by rw [hf]; exact er_mem hkG hk2, hnf⟩
          rw [(num_none hnf).2.2] at kn
          have hr4 := oo.heap 0 rfl
          have r0 := (cell_of_heap hr4 0).trans rfl
          have r1 := (cell_of_heap hr4 1).trans rfl
          have r2 := (cell_of_heap hr4 2).trans rfl
          have r3 := (cell_of_heap hr4 3).trans rfl
          have r4 := (cell_of_heap hr4 4).trans rfl
          have fr0 := frozen_of_heap hr4 0
          have fr1 := frozen_of_heap hr4 1
          have fr2 := frozen_of_heap hr4 2
          have fr3 := frozen_of_heap hr4 3
          have fr4 := frozen_of_heap hr4 4
          have zr := heap_lt hr4
          have HN := Lib.hid (And.intro oo (And.intro kn hno))
          clear hr4 oo kn hno hsn hnf hf hfb hvs hi0 hi1 hV2 hna hal hvl hkF hen
          go_wp2_with (go_at_call 119; refine HN.out.2.1.mono ?_; rintro e w8 ⟨rfl, rfl⟩)
          refine bodyPost_ret (rent_results rfl (put5_heap (HN.out.1.heap 0 rfl) _ _ _ _ _) _ _ rfl rfl) rfl ?_
          exact eny_no HN.out.2.2 (HN.out.1.set 0 rfl (put5_keep _ _ _ _ _ _ _) (put5_heap (HN.out.1.heap 0 rfl) _ _ _ _ _)).bel
        | some v =>
          rw [(num_some hnf).2.2] at kn
          rw [hnf] at hsn
          have hsn2 : allN ((F.take (k + 1)).eraseIdx 2) = some (vs ++ [v]) := hsn
          have hv2 : (F.take (k + 1)).getD 2 [] = (F.take k).getD 2 [] := by
            rw [List.take_succ_eq_append_getElem hkG]
            have hl : (F.take k).length = k := by rw [List.length_take]; omega
            rcases Nat.lt_or_ge 2 k with h | h
            · rw [List.getD_eq_getElem?_getD, List.getElem?_append_left (by omega), ← List.getD_eq_getElem?_getD]
            · rw [List.getD_eq_getElem?_getD, List.getD_eq_getElem?_getD, List.getElem?_eq_none (by rw [List.length_append, hl]; simp; omega), List.getElem?_eq_none (by omega)]
          have HN := Lib.hid (And.intro oo (And.intro kn (And.intro hsn2 (And.intro hv2 (And.intro hi0 (And.intro hi1 (And.intro hV2 (And.intro hna (And.intro hal hvl)))))))))
          clear oo kn hsn hsn2 hnf hf hfb hvs hi0 hi1 hV2 hna hal hvl hkF hen hv2
          by_cases hk0 : k = 0
          · subst hk0
            go_wp2_with (go_at_call 119; refine HN.out.2.1.mono ?_; rintro e w8 ⟨rfl, rfl⟩)
            go_roundg (gk - 1)
            case measure => omega
            case rel =>
              have hv0 : vs = [] := List.length_eq_zero_iff.1 (by rw [HN.out.2.2.2.2.2.2.2.2.2]; rfl)
              refine ⟨1, A, c, q, vs ++ [v], by omega, rfl, by go_num, HN.out.2.2.1, ?_⟩
              have := HN.out.1.set 1 rfl ((Keep.refl [xb] wr).setCell (p := ⟨xb, 0, none⟩) (.inl (by simp)) (.int .i64 v)) (heap_set (HN.out.1.heap 1 rfl) 0 _)
              rw [HN.out.2.2.2.1, ← HN.out.2.2.2.2.2.2.1, show 1 - 3 = na from by rw [HN.out.2.2.2.2.2.2.2.1]]
              subst hv0
              have e1 : i1 = 0 := HN.out.2.2.2.2.2.1
              rw [e1] at this
              exact this
          · have hb0 : ((k : Int) == 0) = false := by rw [beq_eq_false_iff_ne]; omega
            by_cases hk1 : k = 1
            · subst hk1
              go_wp2_with (go_at_call 119; refine HN.out.2.1.mono ?_; rintro e w8 ⟨rfl, rfl⟩)
              go_roundg (gk - 1)
              case measure => omega
              case rel =>
                obtain ⟨v0, hv0⟩ : ∃ v0, vs = [v0] := List.length_eq_one_iff.1 (by rw [HN.out.2.2.2.2.2.2.2.2.2]; rfl)
                refine ⟨2, A, c, q, vs ++ [v], by omega, rfl, by go_num, HN.out.2.2.1, ?_⟩
                have := HN.out.1.set 1 rfl ((Keep.refl [xb] wr).setCell (p := ⟨xb, 1, none⟩) (.inl (by simp)) (.int .i64 v)) (heap_set (HN.out.1.heap 1 rfl) 1 _)
                rw [HN.out.2.2.2.1, ← HN.out.2.2.2.2.2.2.1, show 2 - 3 = na from by rw [HN.out.2.2.2.2.2.2.2.1]]
                have e0 : i0 = v0 := by rw [HN.out.2.2.2.2.1, hv0]; rfl
                subst hv0
                rw [e0] at this
                exact this
            · have hb1 : ((k : Int) == 1) = false := by rw [beq_eq_false_iff_ne]; omega
              have hk3 : 3 ≤ k := by omega
              have hnal : na ≤ 1000001 := by have := HN.out.2.2.2.2.2.2.2.1; omega
              go_wp2_with (first
                  | (go_at_call 119; refine HN.out.2.1.mono ?_; rintro e w8 ⟨rfl, rfl⟩)
                  | (at_builtin
                     refine wpList_append_S (size := 1) rfl (.tmp 72) (.tmp 74) 24 rfl iI _ 8 Tryz.underlying24 hI0 hI1 hI2 (by decide) hI3 rfl (A := A) (n := na) (c := c) (xs := ints ((vs.drop 2).map Int.ofNat)) (fp := q) (by simp [Act.eval]) ⟨wr.heap.size, 0, none⟩ (by simp [Act.eval]) [Value.int .i64 (v : Nat)] (((HN.out.1).below ((Below.refl _ _).alloc (Nat.le_refl _) _)).get 3 rfl) rfl ?_ (by intro u hu; simp at hu; rcases hu with rfl; rfl) (by omega) (by decide) ?_
                     · intro u v hv
                       rw [show (⟨wr.heap.size, 0, none⟩ : Addr).add u = ⟨wr.heap.size, u, none⟩ from by simp [Addr.add]; omega, World.cell?_alloc_new]
                       simpa using hv
                     intro g c' w5 q1 q2 q3 q4
                     have SB := ((HN.out.1).below ((Below.refl _ _).alloc (Nat.le_refl _) (.cells #[Value.int .i64 (v : Nat)] 3))).upd 3 rfl (i' := It.own 3 1 (some ⟨g, 0, none⟩) (na + 1) c' (ints ((vs.drop 2).map Int.ofNat) ++ [Value.int .i64 (v : Nat)]) [g]) q4 q1 (fun u hu => by rw [List.mem_singleton.1 hu]; rcases q2 with e | e; exact .inl e; exact .inr (Nat.le_of_eq e))
                     have xq := SB.heap 1 rfl
                     have y3 := (cell_of_heap xq 3).trans rfl
                     have fy3 := frozen_of_heap xq 3
                     have HQ := Lib.hid SB
                     clear xq
                     clear SB q1 q2 q3 q4))
              go_roundg (gk - 1)
              case measure => omega
              case rel =>
                have hvl : vs.length = k - 1 := by rw [HN.out.2.2.2.2.2.2.2.2.2, if_neg (by omega)]
                refine ⟨k + 1, some ⟨g, 0, none⟩, c', [g], vs ++ [v], by omega, rfl, by go_num, HN.out.2.2.1, ?_⟩
                have := HQ.out.set 1 rfl ((Keep.refl [xb] w5).setCell (p := ⟨xb, 3, none⟩) (.inl (by simp)) (.slice (some ⟨g, 0, none⟩) (na + 1) c')) (heap_set (HQ.out.heap 1 rfl) 3 _)
                have e0 : (vs ++ [v]).getD 0 0 = i0 := by rw [HN.out.2.2.2.2.1, List.getD_eq_getElem?_getD, List.getElem?_append_left (by omega), ← List.getD_eq_getElem?_getD]
                have e1 : (vs ++ [v]).getD 1 0 = i1 := by rw [HN.out.2.2.2.2.2.1, List.getD_eq_getElem?_getD, List.getElem?_append_left (by omega), ← List.getD_eq_getElem?_getD]
                have e3 : k + 1 - 3 = na + 1 := by have := HN.out.2.2.2.2.2.2.2.1; omega
                have e4 : ints (((vs ++ [v]).drop 2).map Int.ofNat) = ints ((vs.drop 2).map Int.ofNat) ++ [Value.int .i64 (v : Nat)] := by
                  rw [List.drop_append_of_le_length (by omega)]; simp [ints]
                rw [HN.out.2.2.2.1, ← HN.out.2.2.2.2.2.2.1, e0, e1, e3, e4]
                exact this
    · obtain rfl : k = n := by omega
      have hFk : F.take k = F := List.take_of_length_le (by have := Hz.out.2.2.2.1; omega)
      rw [hFk] at hvs
      rw [hFk] at hV2
      obtain ⟨y, hy⟩ : ∃ y, y = mkE F vs note := ⟨_, rfl⟩
      have hya : y.args.length = na := by rw [hy]; simp only [mkE, List.length_map]; exact hal
      have hyC : entC y A c = #[.int .i64 i0, .int .i64 i1, .string V2, .slice A na c, .string N] := by
        unfold entC
        rw [hya, hy]
        unfold mkE
        rw [hi0, hi1, hV2, Hz.out.2.2.2.2.1]
      have hyR : Rd wr 1 A y.args.length (ints y.args) := by
        have := (oo.owns 3 rfl).rd
        rw [hya, hy]
        exact this
      have hyE := HE.out.1 vs hvs
      rw [← hy] at hyE
      have hyv : y.verb.length ≤ 1000000 := by
        rw [hy]
        unfold mkE
        simp only
        rcases Nat.lt_or_ge 2 F.length with h | h
        · have e : F.getD 2 [] = F[2] := by simp [h]
          rw [e]; exact Hz.out.2.2.2.2.2.1 _ (List.getElem_mem _)
        · rw [List.getD_eq_getElem?_getD, List.getElem?_eq_none h]; simp
      have hyn : y.note.length ≤ 1000000 := by rw [hy]; exact Hz.out.2.1
      have hnal : na ≤ 1000001 := by omega
      have kw := rWrong_any y A c wr hyR hyv hyn (by rw [hya]; omega)
      rw [hyC] at kw
      have hxq := oo.heap 1 rfl
      have zx := heap_lt hxq
      have x0 := (cell_of_heap hxq 0).trans rfl
      have x1 := (cell_of_heap hxq 1).trans rfl
      have x2 := (cell_of_heap hxq 2).trans rfl
      have x3 := (cell_of_heap hxq 3).trans rfl
      have x4 := (cell_of_heap hxq 4).trans rfl
      have fx0 := frozen_of_heap hxq 0
      have fx1 := frozen_of_heap hxq 1
      have fx2 := frozen_of_heap hxq 2
      have fx3 := frozen_of_heap hxq 3
      have fx4 := frozen_of_heap hxq 4
      have zx := heap_lt hxq
      clear hxq
      have hno : ∀ wf, Own w.heap.size w [.blk rb (eR 0 0 ⟨#[]⟩ none 0 0 ⟨#[]⟩), .blk xb (eR i0 i1 V2 A na c N), .own 9 1 B k cB (strs F) fq, .own 3 1 A na c (ints ((vs.drop 2).map Int.ofNat)) q] wf → entB T = none → EnyPost w T (.returned (.tuple #[.agg #[.int .i64 0, .int .i64 0, .string ⟨#[]⟩, .slice none 0 0, .string ⟨#[]⟩], .bool false])) (put5 wf rb (.int .i64 0) (.int .i64 0) (.string ⟨#[]⟩) (.slice none 0 0) (.string ⟨#[]⟩)) := fun wf ho h =>
        eny_no h (ho.set 0 rfl (put5_keep _ _ _ _ _ _ _) (put5_heap (ho.heap 0 rfl) _ _ _ _ _)).bel
      by_cases hok : okE y = true
      · obtain ⟨D, hD⟩ : ∃ D, D = bs (told y) := ⟨_, rfl⟩
        have kt := fun W (hW : Below wr.heap.size wr W) => rTold_any y A c W (okE_iff.1 hok) (hyR.below hW)
        rw [hyC, ← hD] at kt
        rw [hok] at kw
        obtain ⟨bv, hbv⟩ : ∃ b, b = (D.toList == s.toList) := ⟨_, rfl⟩
        have hbv2 : bv = decide (told y = T) := by
          rw [hbv, str_beq, hD, H.out.1, decide_eq_decide]
          conv => lhs; rhs; rw [← bs_eta s]
          exact bs_inj
        have hne : (D.toList == s.toList) = bv := hbv.symm
        have HY := Lib.hid (And.intro oo (And.intro kw (And.intro kt (And.intro hyE (And.intro hbv2 (And.intro hok (And.intro hyC (And.intro hyR hno))))))))
        clear oo kw kt hyE hbv2 hok hyC hyR hno hbv hD hy hya hyv hyn hvs hi0 hi1 hV2 hna hal hvl hkF hFk
        cases bv
        · go_upto_region 28 with (first
            | (go_at_call 63; refine HY.out.2.1.mono ?_; rintro e w8 ⟨rfl, b8⟩; have o8 := HY.out.1.below b8; have hx8 := o8.heap 1 rfl; have zx8 := heap_lt hx8; have y0 := (cell_of_heap hx8 0).trans rfl; have y1 := (cell_of_heap hx8 1).trans rfl; have y2 := (cell_of_heap hx8 2).trans rfl; have y3 := (cell_of_heap hx8 3).trans rfl; have y4 := (cell_of_heap hx8 4).trans rfl; have H8 := Lib.hid (And.intro o8 b8); clear o8 b8 hx8)
            | (go_at_call 52; refine (HY.out.2.2.1 w8 H8.out.2).mono ?_; rintro e w9 ⟨rfl, b9⟩; have H9 := Lib.hid (H8.out.1.below b9); clear b9))
          have hr4 := H9.out.heap 0 rfl
          have r0 := (cell_of_heap hr4 0).trans rfl
          have r1 := (cell_of_heap hr4 1).trans rfl
          have r2 := (cell_of_heap hr4 2).trans rfl
          have r3 := (cell_of_heap hr4 3).trans rfl
          have r4 := (cell_of_heap hr4 4).trans rfl
          have fr0 := frozen_of_heap hr4 0
          have fr1 := frozen_of_heap hr4 1
          have fr2 := frozen_of_heap hr4 2
          have fr3 := frozen_of_heap hr4 3
          have fr4 := frozen_of_heap hr4 4
          have zr := heap_lt hr4
          clear hr4
          go_wp2_with fail
          refine bodyPost_ret (rent_results rfl (put5_heap (H9.out.heap 0 rfl) _ _ _ _ _) _ _ rfl rfl) rfl ?_
          exact HY.out.2.2.2.2.2.2.2.2 w9 H9.out (by rw [HY.out.2.2.2.1, if_neg]; rintro ⟨_, h⟩; exact of_decide_eq_false HY.out.2.2.2.2.1.symm h)
        · go_upto_region 29 with (first
            | (go_at_call 63; refine HY.out.2.1.mono ?_; rintro e w8 ⟨rfl, b8⟩; have o8 := HY.out.1.below b8; have hx8 := o8.heap 1 rfl; have zx8 := heap_lt hx8; have y0 := (cell_of_heap hx8 0).trans rfl; have y1 := (cell_of_heap hx8 1).trans rfl; have y2 := (cell_of_heap hx8 2).trans rfl; have y3 := (cell_of_heap hx8 3).trans rfl; have y4 := (cell_of_heap hx8 4).trans rfl; have H8 := Lib.hid (And.intro o8 b8); clear o8 b8 hx8)
            | (go_at_call 52; refine (HY.out.2.2.1 w8 H8.out.2).mono ?_; rintro e w9 ⟨rfl, b9⟩; have o9 := H8.out.1.below b9; have hx9 := o9.heap 1 rfl; have zx9 := heap_lt hx9; have v0 := (cell_of_heap hx9 0).trans rfl; have v1 := (cell_of_heap hx9 1).trans rfl; have v2 := (cell_of_heap hx9 2).trans rfl; have v3 := (cell_of_heap hx9 3).trans rfl; have v4 := (cell_of_heap hx9 4).trans rfl; have H9 := Lib.hid (And.intro o9 b9); clear o9 b9 hx9))
          have hr4 := H9.out.1.heap 0 rfl
          have r0 := (cell_of_heap hr4 0).trans rfl
          have r1 := (cell_of_heap hr4 1).trans rfl
          have r2 := (cell_of_heap hr4 2).trans rfl
          have r3 := (cell_of_heap hr4 3).trans rfl
          have r4 := (cell_of_heap hr4 4).trans rfl
          have fr0 := frozen_of_heap hr4 0
          have fr1 := frozen_of_heap hr4 1
          have fr2 := frozen_of_heap hr4 2
          have fr3 := frozen_of_heap hr4 3
          have fr4 := frozen_of_heap hr4 4
          have zr := heap_lt hr4
          clear hr4
          go_wp2_with fail
          refine bodyPost_ret (rent_results rfl (put5_heap (H9.out.1.heap 0 rfl) _ _ _ _ _) _ _ rfl rfl) rfl ?_
          have os := H9.out.1.set 0 rfl (put5_keep w9 rb (.int .i64 i0) (.int .i64 i1) (.string V2) (.slice A na c) (.string N)) (put5_heap (H9.out.1.heap 0 rfl) _ _ _ _ _)
          have he : entB T = some y := by rw [HY.out.2.2.2.1, if_pos ⟨HY.out.2.2.2.2.2.1, of_decide_eq_true HY.out.2.2.2.2.1.symm⟩]
          refine ⟨y, A, c, by rw [HY.out.2.2.2.2.2.2.1, he]; rfl, os.bel, fun z hz => ?_⟩
          rw [he] at hz
          injection hz with hz
          subst hz
          have h8 := (HY.out.2.2.2.2.2.2.2.1.below H8.out.2).below H9.out.2
          refine ⟨rfl, (put5_keep w9 rb (.int .i64 i0) (.int .i64 i1) (.string V2) (.slice A na c) (.string N)).rd h8 ?_, ?_⟩
          · intro b off e
            rcases (HY.out.1.owns 3 rfl).2 with ⟨rfl, _⟩ | ⟨g, _, rfl, rfl, _⟩
            · cases e
            · cases e
              simpa using HY.out.1.ne 3 0 rfl rfl (by decide) (x := b) (y := rb) (by simp [It.fp]) (by simp [It.fp])
          · intro b off e
            rcases (HY.out.1.owns 3 rfl).2 with ⟨rfl, _⟩ | ⟨g, _, rfl, rfl, _⟩
            · cases e
            · cases e
              exact HY.out.1.ge 3 rfl (by simp [It.fp])
      · rw [show okE y = false from by simpa using hok] at kw
        have HY := Lib.hid (And.intro oo (And.intro kw (And.intro hyE (And.intro hok hno))))
        clear oo kw hyE hok hno hyC hyR hy hya hyv hyn hvs hi0 hi1 hV2 hna hal hvl hkF hFk
        go_upto_region 28 with (go_at_call 63; refine HY.out.2.1.mono ?_; rintro e w8 ⟨rfl, b8⟩; have H8 := Lib.hid (HY.out.1.below b8); clear b8)
        have hr4 := H8.out.heap 0 rfl
        have r0 := (cell_of_heap hr4 0).trans rfl
        have r1 := (cell_of_heap hr4 1).trans rfl
        have r2 := (cell_of_heap hr4 2).trans rfl
        have r3 := (cell_of_heap hr4 3).trans rfl
        have r4 := (cell_of_heap hr4 4).trans rfl
        have fr0 := frozen_of_heap hr4 0
        have fr1 := frozen_of_heap hr4 1
        have fr2 := frozen_of_heap hr4 2
        have fr3 := frozen_of_heap hr4 3
        have fr4 := frozen_of_heap hr4 4
        have zr := heap_lt hr4
        clear hr4
        go_wp2_with fail
        refine bodyPost_ret (rent_results rfl (put5_heap (H8.out.heap 0 rfl) _ _ _ _ _) _ _ rfl rfl) rfl ?_
        exact HY.out.2.2.2.2 w8 H8.out (by rw [HY.out.2.2.1, if_neg]; rintro ⟨h, _⟩; exact HY.out.2.2.2.1 h)
end Go.Proofs.YtaokegobilphnaaGreatDoor
