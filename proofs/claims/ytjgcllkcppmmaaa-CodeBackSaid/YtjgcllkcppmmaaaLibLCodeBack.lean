/- Functions that the laws reach, as plain Lean functions, and the contracts of their calls; conditions: those that each theorem states. Written by a program of this session. -/
import Derived.Test.YtjgcllkcppmmaaaLib2
import Derived.Test.YtjgcllkcppmmaaaAid
namespace Go.Proofs.Ytjgcllkcppmmaaa.Lib
open Go.RowKit Go.Proofs.YtjgcllkcppmmaaaW.PrintWords Go.Proofs.YtjgcllkcppmmaaaW.PrintLast Go.Proofs.YtjgcllkcppmmaaaW.PrintMore
attribute [local go_sem] max2_int min2_int max_two min_two max_three min_three max_four min_four   -- for this text's walks alone
set_option linter.unusedVariables false
set_option linter.unusedSimpArgs false

/-! ### rickyardlaw04_CodeBack: function 9 -/
def rickyardlaw04_CodeBack.j0 : Nat → Int → Int → ByteArray → List Int → Bool → Option (Bool)
  | 0, _, _, _, _, _ => none
  | k + 1, x0, x1, x2, x3, x28 => if x28 = true then ((rickyardlaw04_alive.f k).bind fun t159 => (some t159)) else ((code_Short.f k x0).bind fun t160 => ((code_Number.f k x1).bind fun t163 => ((code_Text.f k x2).bind fun t166 => ((rickyardlaw04_with.f t160 x3).bind fun t169 => ((code_ReadShort.f k t169).bind fun bt172 => ((rickyardlaw04_with.f t163 x3).bind fun t175 => ((code_ReadNumber.f k t175).bind fun bt178 => ((rickyardlaw04_with.f t166 x3).bind fun t181 => ((code_ReadText.f k t181).bind fun bt184 => ((rickyardlaw04_alive.f k).bind fun t187 => (if t187 = true then (if bt172.1 = x0 then (if bt172.2.1 = (t160.length : Int) then (if bt172.2.2 = 0 then (if bt178.1 = x1 then (if bt178.2.1 = (t163.length : Int) then (if bt178.2.2 = 0 then (if bt184.1.toList = x2.toList then (if bt184.2.1 = (t166.length : Int) then (some (bt184.2.2 == 0)) else (some false)) else (some false)) else (some false)) else (some false)) else (some false)) else (some false)) else (some false)) else (some false)) else (some false))))))))))))
def rickyardlaw04_CodeBack.f (k : Nat) (a0 : Int) (a1 : Int) (a2 : ByteArray) (l3 : List Int) : Option (Bool) := if (a2.size : Int) > 2000 then (rickyardlaw04_CodeBack.j0 k a0 a1 a2 l3 true) else (rickyardlaw04_CodeBack.j0 k a0 a1 a2 l3 (decide ((l3.length : Int) > 100)))
theorem rickyardlaw04_CodeBack.mono_l : ∀ k, (∀ y0 y1 y2 y3 y4, LeO (rickyardlaw04_CodeBack.j0 k y0 y1 y2 y3 y4) (rickyardlaw04_CodeBack.j0 (k + 1) y0 y1 y2 y3 y4))
  | 0 => fun _ _ _ _ _ r h => by simp [rickyardlaw04_CodeBack.j0] at h
  | k + 1 => by
    have ih0 := rickyardlaw04_CodeBack.mono_l k
    · intro y0 y1 y2 y3 y4
      unfold rickyardlaw04_CodeBack.j0
      repeat' first
      | (with_reducible exact ih0 _ _ _ _ _)
      | (with_reducible exact code_Number.mono _ _)
      | (with_reducible exact code_ReadNumber.mono _ _)
      | (with_reducible exact code_ReadShort.mono _ _)
      | (with_reducible exact code_ReadText.mono _ _)
      | (with_reducible exact code_Short.mono _ _)
      | (with_reducible exact code_Text.mono _ _)
      | (with_reducible exact rickyardlaw04_alive.mono _)
      | (with_reducible exact LeO.refl _)
      | (with_reducible exact LeO.none _)
      | (with_reducible refine LeO.ite ?_ ?_)
      | (with_reducible refine LeO.bind ?_ (fun _ => ?_))
      | exact ih0 _ _ _ _ _
      | exact code_Number.mono _ _
      | exact code_ReadNumber.mono _ _
      | exact code_ReadShort.mono _ _
      | exact code_ReadText.mono _ _
      | exact code_Short.mono _ _
      | exact code_Text.mono _ _
      | exact rickyardlaw04_alive.mono _
      | exact LeO.none _
      | refine LeO.ite ?_ ?_
      | refine LeO.bind ?_ (fun _ => ?_)
theorem rickyardlaw04_CodeBack.mono : ∀ a0 a1 a2 a3 k, LeO (rickyardlaw04_CodeBack.f k a0 a1 a2 a3) (rickyardlaw04_CodeBack.f (k + 1) a0 a1 a2 a3) := by
  intro a0 a1 a2 a3 k
  have ih0 := rickyardlaw04_CodeBack.mono_l k
  unfold rickyardlaw04_CodeBack.f
  repeat' first
      | (with_reducible exact ih0 _ _ _ _ _)
      | (with_reducible exact code_Number.mono _ _)
      | (with_reducible exact code_ReadNumber.mono _ _)
      | (with_reducible exact code_ReadShort.mono _ _)
      | (with_reducible exact code_ReadText.mono _ _)
      | (with_reducible exact code_Short.mono _ _)
      | (with_reducible exact code_Text.mono _ _)
      | (with_reducible exact rickyardlaw04_alive.mono _)
      | (with_reducible exact LeO.refl _)
      | (with_reducible exact LeO.none _)
      | (with_reducible refine LeO.ite ?_ ?_)
      | (with_reducible refine LeO.bind ?_ (fun _ => ?_))
      | exact ih0 _ _ _ _ _
      | exact code_Number.mono _ _
      | exact code_ReadNumber.mono _ _
      | exact code_ReadShort.mono _ _
      | exact code_ReadText.mono _ _
      | exact code_Short.mono _ _
      | exact code_Text.mono _ _
      | exact rickyardlaw04_alive.mono _
      | exact LeO.none _
      | refine LeO.ite ?_ ?_
      | refine LeO.bind ?_ (fun _ => ?_)
set_option maxHeartbeats 8000000 in
set_option maxRecDepth 100000 in
theorem rickyardlaw04_CodeBack.calls (k : Nat) (a0 : Int) (a1 : Int) (a2 : ByteArray) (A3 : Option Addr) (c3 : Nat) (l3 : List Int) (r : Bool) (w : World) (hr3 : Kd.C (Kd.int .u8) w A3 l3.length l3) (hc3 : l3.length ≤ c3) (hT : r = true) (h : rickyardlaw04_CodeBack.f k a0 a1 a2 l3 = some r) :
    Calls Try.prog 9 #[.int .u64 a0, .int .i64 a1, .string a2, .slice A3 l3.length c3] w fun e w' => e = .returned (.bool r) ∧ Below w.heap.size w w' := by
  have HT := Aside0.mk hT
  clear hT
  have HR3 := Aside0.mk hr3
  have HC3 := Aside0.mk hc3
  clear hr3 hc3
  have HB := Aside0.mk (Below.refl w.heap.size w)
  have H : (if (a2.size : Int) > 2000 then (rickyardlaw04_CodeBack.j0 k a0 a1 a2 l3 true) else (rickyardlaw04_CodeBack.j0 k a0 a1 a2 l3 (decide ((l3.length : Int) > 100)))) = some r := h
  clear h
  have HC5 := Aside0.mk H
  clear H
  go_enter Try.func9, Try.ntmps9
  go_upto_region 1 with (fail)
  go_cut [28] (fun v28 wc => ∃ (kq : Nat) (x28_4 : Bool), v28 = .bool x28_4 ∧ Aside0 (rickyardlaw04_CodeBack.j0 kq a0 a1 a2 l3 x28_4 = some r) ∧ Aside0 (kq ≤ k) ∧ Aside0 (Below w.heap.size w wc))
  case first =>
    have H := HC5.out
    clear HC5
    by_cases c6 : (a2.size : Int) > 2000
    · rw [if_pos c6] at H
      have c6b0 : decide (2000 < (a2.size : Int)) = true := decide_eq_true c6
      have c6b1 : decide (2000 < a2.size) = true := decide_eq_true (by omega)
      clear c6
      (first | rw [c6b0] | (simp only [i64_w, i32_w]; rw [c6b0]) | skip)
      have H' := Aside0.mk H
      clear H
      go_wp2
      go_meet
      case rel => exact ⟨_, (true), (by first | rfl | (simp; done) | (simp [*]; done)), H', ⟨by first | omega | exact Nat.le_refl _⟩, ⟨by repeat (first | (with_reducible first | exact HB.out | apply below_alloc | apply pw_below_drewN | apply below_drew1) | exact HB.out)⟩⟩
    · rw [if_neg c6] at H
      have c6b0 : decide (2000 < (a2.size : Int)) = false := decide_eq_false c6
      have c6b1 : decide (2000 < a2.size) = false := decide_eq_false (by omega)
      clear c6
      (first | rw [c6b0] | (simp only [i64_w, i32_w]; rw [c6b0]) | skip)
      have H' := Aside0.mk H
      clear H
      go_wp2
      go_meet
      case rel => exact ⟨_, (decide ((l3.length : Int) > 100)), (by first | rfl | (simp; done) | (simp [*]; done)), H', ⟨by first | omega | exact Nat.le_refl _⟩, ⟨by repeat (first | (with_reducible first | exact HB.out | apply below_alloc | apply pw_below_drewN | apply below_drew1) | exact HB.out)⟩⟩
  case rest =>
    clear HC5
    try clear p2
    try clear c3
    try clear c6
    try clear c6b0
    try clear c6b1
    obtain ⟨kq, x28_4, rfl, HA, HJ4, HB⟩ := hcut
    cases kq with
    | zero => exact absurd HA.out (by simp [rickyardlaw04_CodeBack.j0])
    | succ kj4 =>
      have H := HA.out
      clear HA
      simp only [rickyardlaw04_CodeBack.j0] at H
      by_cases c7 : x28_4 = true
      · subst c7
        have H1 : ((rickyardlaw04_alive.f kj4).bind fun t159 => (some t159)) = some r := by rw [if_pos rfl] at H; exact H
        clear H
        have H := H1
        clear H1
        replace H := Option.bind_eq_some_iff.mp H
        obtain ⟨t159, A80, H⟩ := H
        replace H : (some t159) = some r := H
        have A8 := Aside0.mk A80
        clear A80
        obtain rfl := Option.some.inj H
        go_wp2_with (first | ((with_reducible refine gate_callee (f := 12) rfl ?_); refine goesL_ (some 29) rfl rfl Try.func12 (by kernel_rfl) rfl #[] rfl (by (try simp only [List.map_toArray, List.map_cons, List.map_nil]); first | done | rfl | (simp only [List.length_drop, List.length_take]; rfl)) ?_; (with_reducible refine (rickyardlaw04_alive.calls kj4  t159 _ A8.out).mono ?_); rintro e w9 ⟨rfl, hb⟩; refine ⟨_, rfl, ?_⟩; have n0_ := Aside0.mk (below_step (by repeat (first | (with_reducible first | exact HB.out | apply below_alloc | apply pw_below_drewN | apply below_drew1) | exact HB.out)) hb); clear HB; have HB := n0_; clear n0_; (try clear hb); (try clear hb2); (try clear hk); (try clear hi)))
        go_ret
        exact ⟨by first | rfl | (simp [errW_none, errW_some] <;> rfl) | (simp [*, errW_none, errW_some] <;> rfl), by repeat (first | (with_reducible first | exact HB.out | apply below_alloc | apply pw_below_drewN | apply below_drew1) | exact HB.out)⟩
      · replace c7 := Bool.eq_false_iff.mpr c7
        subst c7
        have H1 : ((code_Short.f kj4 a0).bind fun t160 => ((code_Number.f kj4 a1).bind fun t163 => ((code_Text.f kj4 a2).bind fun t166 => ((rickyardlaw04_with.f t160 l3).bind fun t169 => ((code_ReadShort.f kj4 t169).bind fun bt172 => ((rickyardlaw04_with.f t163 l3).bind fun t175 => ((code_ReadNumber.f kj4 t175).bind fun bt178 => ((rickyardlaw04_with.f t166 l3).bind fun t181 => ((code_ReadText.f kj4 t181).bind fun bt184 => ((rickyardlaw04_alive.f kj4).bind fun t187 => (if t187 = true then (if bt172.1 = a0 then (if bt172.2.1 = (t160.length : Int) then (if bt172.2.2 = 0 then (if bt178.1 = a1 then (if bt178.2.1 = (t163.length : Int) then (if bt178.2.2 = 0 then (if bt184.1.toList = a2.toList then (if bt184.2.1 = (t166.length : Int) then (some (bt184.2.2 == 0)) else (some false)) else (some false)) else (some false)) else (some false)) else (some false)) else (some false)) else (some false)) else (some false)) else (some false)))))))))))) = some r := by rw [if_neg (show ¬ (false = true) by decide)] at H; exact H
        clear H
        have H := H1
        clear H1
        replace H := Option.bind_eq_some_iff.mp H
        obtain ⟨t160, A100, H⟩ := H
        replace H : ((code_Number.f kj4 a1).bind fun t163 => ((code_Text.f kj4 a2).bind fun t166 => ((rickyardlaw04_with.f t160 l3).bind fun t169 => ((code_ReadShort.f kj4 t169).bind fun bt172 => ((rickyardlaw04_with.f t163 l3).bind fun t175 => ((code_ReadNumber.f kj4 t175).bind fun bt178 => ((rickyardlaw04_with.f t166 l3).bind fun t181 => ((code_ReadText.f kj4 t181).bind fun bt184 => ((rickyardlaw04_alive.f kj4).bind fun t187 => (if t187 = true then (if bt172.1 = a0 then (if bt172.2.1 = (t160.length : Int) then (if bt172.2.2 = 0 then (if bt178.1 = a1 then (if bt178.2.1 = (t163.length : Int) then (if bt178.2.2 = 0 then (if bt184.1.toList = a2.toList then (if bt184.2.1 = (t166.length : Int) then (some (bt184.2.2 == 0)) else (some false)) else (some false)) else (some false)) else (some false)) else (some false)) else (some false)) else (some false)) else (some false)) else (some false))))))))))) = some r := H
        have A10 := Aside0.mk A100
        clear A100
        replace H := Option.bind_eq_some_iff.mp H
        obtain ⟨t163, A110, H⟩ := H
        replace H : ((code_Text.f kj4 a2).bind fun t166 => ((rickyardlaw04_with.f t160 l3).bind fun t169 => ((code_ReadShort.f kj4 t169).bind fun bt172 => ((rickyardlaw04_with.f t163 l3).bind fun t175 => ((code_ReadNumber.f kj4 t175).bind fun bt178 => ((rickyardlaw04_with.f t166 l3).bind fun t181 => ((code_ReadText.f kj4 t181).bind fun bt184 => ((rickyardlaw04_alive.f kj4).bind fun t187 => (if t187 = true then (if bt172.1 = a0 then (if bt172.2.1 = (t160.length : Int) then (if bt172.2.2 = 0 then (if bt178.1 = a1 then (if bt178.2.1 = (t163.length : Int) then (if bt178.2.2 = 0 then (if bt184.1.toList = a2.toList then (if bt184.2.1 = (t166.length : Int) then (some (bt184.2.2 == 0)) else (some false)) else (some false)) else (some false)) else (some false)) else (some false)) else (some false)) else (some false)) else (some false)) else (some false)))))))))) = some r := H
        have A11 := Aside0.mk A110
        clear A110
        replace H := Option.bind_eq_some_iff.mp H
        obtain ⟨t166, A120, H⟩ := H
        replace H : ((rickyardlaw04_with.f t160 l3).bind fun t169 => ((code_ReadShort.f kj4 t169).bind fun bt172 => ((rickyardlaw04_with.f t163 l3).bind fun t175 => ((code_ReadNumber.f kj4 t175).bind fun bt178 => ((rickyardlaw04_with.f t166 l3).bind fun t181 => ((code_ReadText.f kj4 t181).bind fun bt184 => ((rickyardlaw04_alive.f kj4).bind fun t187 => (if t187 = true then (if bt172.1 = a0 then (if bt172.2.1 = (t160.length : Int) then (if bt172.2.2 = 0 then (if bt178.1 = a1 then (if bt178.2.1 = (t163.length : Int) then (if bt178.2.2 = 0 then (if bt184.1.toList = a2.toList then (if bt184.2.1 = (t166.length : Int) then (some (bt184.2.2 == 0)) else (some false)) else (some false)) else (some false)) else (some false)) else (some false)) else (some false)) else (some false)) else (some false)) else (some false))))))))) = some r := H
        have A12 := Aside0.mk A120
        clear A120
        replace H := Option.bind_eq_some_iff.mp H
        obtain ⟨t169, A130, H⟩ := H
        replace H : ((code_ReadShort.f kj4 t169).bind fun bt172 => ((rickyardlaw04_with.f t163 l3).bind fun t175 => ((code_ReadNumber.f kj4 t175).bind fun bt178 => ((rickyardlaw04_with.f t166 l3).bind fun t181 => ((code_ReadText.f kj4 t181).bind fun bt184 => ((rickyardlaw04_alive.f kj4).bind fun t187 => (if t187 = true then (if bt172.1 = a0 then (if bt172.2.1 = (t160.length : Int) then (if bt172.2.2 = 0 then (if bt178.1 = a1 then (if bt178.2.1 = (t163.length : Int) then (if bt178.2.2 = 0 then (if bt184.1.toList = a2.toList then (if bt184.2.1 = (t166.length : Int) then (some (bt184.2.2 == 0)) else (some false)) else (some false)) else (some false)) else (some false)) else (some false)) else (some false)) else (some false)) else (some false)) else (some false)))))))) = some r := H
        have A13 := Aside0.mk A130
        clear A130
        replace H := Option.bind_eq_some_iff.mp H
        obtain ⟨⟨t172, t173, t174⟩, A140, H⟩ := H
        replace H : ((rickyardlaw04_with.f t163 l3).bind fun t175 => ((code_ReadNumber.f kj4 t175).bind fun bt178 => ((rickyardlaw04_with.f t166 l3).bind fun t181 => ((code_ReadText.f kj4 t181).bind fun bt184 => ((rickyardlaw04_alive.f kj4).bind fun t187 => (if t187 = true then (if t172 = a0 then (if t173 = (t160.length : Int) then (if t174 = 0 then (if bt178.1 = a1 then (if bt178.2.1 = (t163.length : Int) then (if bt178.2.2 = 0 then (if bt184.1.toList = a2.toList then (if bt184.2.1 = (t166.length : Int) then (some (bt184.2.2 == 0)) else (some false)) else (some false)) else (some false)) else (some false)) else (some false)) else (some false)) else (some false)) else (some false)) else (some false))))))) = some r := H
        have A14 := Aside0.mk A140
        clear A140
        replace H := Option.bind_eq_some_iff.mp H
        obtain ⟨t175, A150, H⟩ := H
        replace H : ((code_ReadNumber.f kj4 t175).bind fun bt178 => ((rickyardlaw04_with.f t166 l3).bind fun t181 => ((code_ReadText.f kj4 t181).bind fun bt184 => ((rickyardlaw04_alive.f kj4).bind fun t187 => (if t187 = true then (if t172 = a0 then (if t173 = (t160.length : Int) then (if t174 = 0 then (if bt178.1 = a1 then (if bt178.2.1 = (t163.length : Int) then (if bt178.2.2 = 0 then (if bt184.1.toList = a2.toList then (if bt184.2.1 = (t166.length : Int) then (some (bt184.2.2 == 0)) else (some false)) else (some false)) else (some false)) else (some false)) else (some false)) else (some false)) else (some false)) else (some false)) else (some false)))))) = some r := H
        have A15 := Aside0.mk A150
        clear A150
        replace H := Option.bind_eq_some_iff.mp H
        obtain ⟨⟨t178, t179, t180⟩, A160, H⟩ := H
        replace H : ((rickyardlaw04_with.f t166 l3).bind fun t181 => ((code_ReadText.f kj4 t181).bind fun bt184 => ((rickyardlaw04_alive.f kj4).bind fun t187 => (if t187 = true then (if t172 = a0 then (if t173 = (t160.length : Int) then (if t174 = 0 then (if t178 = a1 then (if t179 = (t163.length : Int) then (if t180 = 0 then (if bt184.1.toList = a2.toList then (if bt184.2.1 = (t166.length : Int) then (some (bt184.2.2 == 0)) else (some false)) else (some false)) else (some false)) else (some false)) else (some false)) else (some false)) else (some false)) else (some false)) else (some false))))) = some r := H
        have A16 := Aside0.mk A160
        clear A160
        replace H := Option.bind_eq_some_iff.mp H
        obtain ⟨t181, A170, H⟩ := H
        replace H : ((code_ReadText.f kj4 t181).bind fun bt184 => ((rickyardlaw04_alive.f kj4).bind fun t187 => (if t187 = true then (if t172 = a0 then (if t173 = (t160.length : Int) then (if t174 = 0 then (if t178 = a1 then (if t179 = (t163.length : Int) then (if t180 = 0 then (if bt184.1.toList = a2.toList then (if bt184.2.1 = (t166.length : Int) then (some (bt184.2.2 == 0)) else (some false)) else (some false)) else (some false)) else (some false)) else (some false)) else (some false)) else (some false)) else (some false)) else (some false)))) = some r := H
        have A17 := Aside0.mk A170
        clear A170
        replace H := Option.bind_eq_some_iff.mp H
        obtain ⟨⟨t184, t185, t186⟩, A180, H⟩ := H
        replace H : ((rickyardlaw04_alive.f kj4).bind fun t187 => (if t187 = true then (if t172 = a0 then (if t173 = (t160.length : Int) then (if t174 = 0 then (if t178 = a1 then (if t179 = (t163.length : Int) then (if t180 = 0 then (if t184.toList = a2.toList then (if t185 = (t166.length : Int) then (some (t186 == 0)) else (some false)) else (some false)) else (some false)) else (some false)) else (some false)) else (some false)) else (some false)) else (some false)) else (some false))) = some r := H
        have A18 := Aside0.mk A180
        clear A180
        replace H := Option.bind_eq_some_iff.mp H
        obtain ⟨t187, A190, H⟩ := H
        replace H : (if t187 = true then (if t172 = a0 then (if t173 = (t160.length : Int) then (if t174 = 0 then (if t178 = a1 then (if t179 = (t163.length : Int) then (if t180 = 0 then (if t184.toList = a2.toList then (if t185 = (t166.length : Int) then (some (t186 == 0)) else (some false)) else (some false)) else (some false)) else (some false)) else (some false)) else (some false)) else (some false)) else (some false)) else (some false)) = some r := H
        have A19 := Aside0.mk A190
        clear A190
        by_cases c20 : t187 = true
        · subst c20
          have H1 : (if t172 = a0 then (if t173 = (t160.length : Int) then (if t174 = 0 then (if t178 = a1 then (if t179 = (t163.length : Int) then (if t180 = 0 then (if t184.toList = a2.toList then (if t185 = (t166.length : Int) then (some (t186 == 0)) else (some false)) else (some false)) else (some false)) else (some false)) else (some false)) else (some false)) else (some false)) else (some false)) = some r := by rw [if_pos rfl] at H; exact H
          clear H
          have H := H1
          clear H1
          by_cases c21 : t172 = a0
          · rw [if_pos c21] at H
            have c21b0 : (t172 == a0) = true := beq_iff_eq.mpr c21
            have c21b1 : (t172 != a0) = false := bne_eq_false_iff_eq.mpr c21
            clear c21
            by_cases c22 : t173 = (t160.length : Int)
            · rw [if_pos c22] at H
              have c22b0 : (t173 == (t160.length : Int)) = true := beq_iff_eq.mpr c22
              have c22b1 : (t173 != (t160.length : Int)) = false := bne_eq_false_iff_eq.mpr c22
              clear c22
              by_cases c23 : t174 = 0
              · rw [if_pos c23] at H
                have c23b0 : (t174 == 0) = true := beq_iff_eq.mpr c23
                have c23b1 : (t174 != 0) = false := bne_eq_false_iff_eq.mpr c23
                clear c23
                by_cases c24 : t178 = a1
                · rw [if_pos c24] at H
                  have c24b0 : (t178 == a1) = true := beq_iff_eq.mpr c24
                  have c24b1 : (t178 != a1) = false := bne_eq_false_iff_eq.mpr c24
                  clear c24
                  by_cases c25 : t179 = (t163.length : Int)
                  · rw [if_pos c25] at H
                    have c25b0 : (t179 == (t163.length : Int)) = true := beq_iff_eq.mpr c25
                    have c25b1 : (t179 != (t163.length : Int)) = false := bne_eq_false_iff_eq.mpr c25
                    clear c25
                    by_cases c26 : t180 = 0
                    · rw [if_pos c26] at H
                      have c26b0 : (t180 == 0) = true := beq_iff_eq.mpr c26
                      have c26b1 : (t180 != 0) = false := bne_eq_false_iff_eq.mpr c26
                      clear c26
                      by_cases c27 : t184.toList = a2.toList
                      · rw [if_pos c27] at H
                        have c27b0 : (t184.toList == a2.toList) = true := beq_iff_eq.mpr c27
                        have c27b1 : (t184.toList != a2.toList) = false := bne_eq_false_iff_eq.mpr c27
                        clear c27
                        by_cases c28 : t185 = (t166.length : Int)
                        · rw [if_pos c28] at H
                          have c28b0 : (t185 == (t166.length : Int)) = true := beq_iff_eq.mpr c28
                          have c28b1 : (t185 != (t166.length : Int)) = false := bne_eq_false_iff_eq.mpr c28
                          clear c28
                          obtain rfl := Option.some.inj H
                          go_wp2_with (first | ((with_reducible refine gate_callee (f := 13) rfl ?_); refine goesL_ (some 31) rfl rfl Try.func13 (by kernel_rfl) rfl #[.int .u64 a0] rfl (by (try simp only [List.map_toArray, List.map_cons, List.map_nil]); first | done | rfl | (simp only [List.length_drop, List.length_take]; rfl)) ?_; (with_reducible refine (code_Short.calls kj4 a0 t160 _ A10.out).mono ?_); rintro e w29 ⟨v161, rfl, ho0, hb⟩; refine ⟨_, rfl, ?_⟩; have n0_ := Aside0.mk (Kd.R_lower ho0 (below_size (by repeat (first | (with_reducible first | exact HB.out | apply below_alloc | apply pw_below_drewN | apply below_drew1) | exact HB.out)))); have n1_ := Aside0.mk (below_step (by repeat (first | (with_reducible first | exact HB.out | apply below_alloc | apply pw_below_drewN | apply below_drew1) | exact HB.out)) hb); clear HB; have HO162 := n0_; have HB := n1_; clear n0_ n1_; (try clear hb); (try clear hb2); (try clear hk); (try clear hi); (try clear ho0)) | ((with_reducible refine gate_callee (f := 15) rfl ?_); refine goesL_ (some 33) rfl rfl Try.func15 (by kernel_rfl) rfl #[.int .i64 a1] rfl (by (try simp only [List.map_toArray, List.map_cons, List.map_nil]); first | done | rfl | (simp only [List.length_drop, List.length_take]; rfl)) ?_; (with_reducible refine (code_Number.calls kj4 a1 t163 _ A11.out).mono ?_); rintro e w30 ⟨v164, rfl, ho0, hb⟩; refine ⟨_, rfl, ?_⟩; have n0_ := Aside0.mk (Kd.R_elder' (by (with_reducible repeat (first | apply Kd.R_alloc | apply Kd.R_drewN | apply Kd.R_drew)); exact HO162.out) (Kd.R_base ho0) hb); have n1_ := Aside0.mk (Kd.R_lower (Kd.R_new' ho0 (Kd.R_lt (by (with_reducible repeat (first | apply Kd.R_alloc | apply Kd.R_drewN | apply Kd.R_drew)); exact HO162.out))) (below_size (by repeat (first | (with_reducible first | exact HB.out | apply below_alloc | apply pw_below_drewN | apply below_drew1) | exact HB.out)))); have n2_ := Aside0.mk (below_step (by repeat (first | (with_reducible first | exact HB.out | apply below_alloc | apply pw_below_drewN | apply below_drew1) | exact HB.out)) hb); clear HO162; clear HB; have HO162 := n0_; have HO165 := n1_; have HB := n2_; clear n0_ n1_ n2_; (try clear hb); (try clear hb2); (try clear hk); (try clear hi); (try clear ho0)) | ((with_reducible refine gate_callee (f := 16) rfl ?_); refine goesL_ (some 35) rfl rfl Try.func16 (by kernel_rfl) rfl #[.string a2] rfl (by (try simp only [List.map_toArray, List.map_cons, List.map_nil]); first | done | rfl | (simp only [List.length_drop, List.length_take]; rfl)) ?_; (with_reducible refine (code_Text.calls kj4 a2 t166 _ A12.out).mono ?_); rintro e w31 ⟨v167, rfl, ho0, hb⟩; refine ⟨_, rfl, ?_⟩; have n0_ := Aside0.mk (Kd.R_elder' (by (with_reducible repeat (first | apply Kd.R_alloc | apply Kd.R_drewN | apply Kd.R_drew)); exact HO162.out) (Kd.R_base ho0) hb); have n1_ := Aside0.mk (Kd.R_elder' (by (with_reducible repeat (first | apply Kd.R_alloc | apply Kd.R_drewN | apply Kd.R_drew)); exact HO165.out) (Kd.R_base ho0) hb); have n2_ := Aside0.mk (Kd.R_lower (Kd.R_new' (Kd.R_new' ho0 (Kd.R_lt (by (with_reducible repeat (first | apply Kd.R_alloc | apply Kd.R_drewN | apply Kd.R_drew)); exact HO162.out))) (Kd.R_lt (by (with_reducible repeat (first | apply Kd.R_alloc | apply Kd.R_drewN | apply Kd.R_drew)); exact HO165.out))) (below_size (by repeat (first | (with_reducible first | exact HB.out | apply below_alloc | apply pw_below_drewN | apply below_drew1) | exact HB.out)))); have n3_ := Aside0.mk (below_step (by repeat (first | (with_reducible first | exact HB.out | apply below_alloc | apply pw_below_drewN | apply below_drew1) | exact HB.out)) hb); clear HO162; clear HO165; clear HB; have HO162 := n0_; have HO165 := n1_; have HO168 := n2_; have HB := n3_; clear n0_ n1_ n2_ n3_; (try clear hb); (try clear hb2); (try clear hk); (try clear hi); (try clear ho0); obtain ⟨Ao32, co32, eo32⟩ := Kd.R_slice HO162.out; subst eo32) | ((with_reducible refine gate_callee (f := 17) rfl ?_); refine goesL_ (some 39) rfl rfl Try.func17 (by kernel_rfl) rfl #[.slice Ao32 t160.length co32, .slice A3 l3.length c3] rfl (by (try simp only [List.map_toArray, List.map_cons, List.map_nil]); first | done | rfl | (simp only [List.length_drop, List.length_take]; rfl)) ?_; (with_reducible refine (rickyardlaw04_with.calls _ _ t160 _ _ l3 t169 _ ?side1 ?side2 ?side3 ?side4 A13.out).mono ?_); (case side1 => repeat (first | exact (Kd.R_reads' HO162.out).2.2 | (with_reducible refine Kd.C_alloc ?_ _) | (with_reducible refine Kd.C_drewN ?_ _) | (with_reducible refine Kd.C_drew ?_))); (case side2 => exact (Kd.R_reads' HO162.out).2.1); (case side3 => repeat (first | exact (Kd.C_below HR3.out HB.out) | (with_reducible refine Kd.C_alloc ?_ _) | (with_reducible refine Kd.C_drewN ?_ _) | (with_reducible refine Kd.C_drew ?_))); (case side4 => exact HC3.out); rintro e w33 ⟨v170, rfl, ho0, hb⟩; refine ⟨_, rfl, ?_⟩; have n0_ := Aside0.mk (Kd.R_elder' (by (with_reducible repeat (first | apply Kd.R_alloc | apply Kd.R_drewN | apply Kd.R_drew)); exact HO162.out) (Kd.R_base ho0) hb); have n1_ := Aside0.mk (Kd.R_elder' (by (with_reducible repeat (first | apply Kd.R_alloc | apply Kd.R_drewN | apply Kd.R_drew)); exact HO165.out) (Kd.R_base ho0) hb); have n2_ := Aside0.mk (Kd.R_elder' (by (with_reducible repeat (first | apply Kd.R_alloc | apply Kd.R_drewN | apply Kd.R_drew)); exact HO168.out) (Kd.R_base ho0) hb); have n3_ := Aside0.mk (Kd.R_lower (Kd.R_new' (Kd.R_new' (Kd.R_new' ho0 (Kd.R_lt (by (with_reducible repeat (first | apply Kd.R_alloc | apply Kd.R_drewN | apply Kd.R_drew)); exact HO162.out))) (Kd.R_lt (by (with_reducible repeat (first | apply Kd.R_alloc | apply Kd.R_drewN | apply Kd.R_drew)); exact HO165.out))) (Kd.R_lt (by (with_reducible repeat (first | apply Kd.R_alloc | apply Kd.R_drewN | apply Kd.R_drew)); exact HO168.out))) (below_size (by repeat (first | (with_reducible first | exact HB.out | apply below_alloc | apply pw_below_drewN | apply below_drew1) | exact HB.out)))); have n4_ := Aside0.mk (below_step (by repeat (first | (with_reducible first | exact HB.out | apply below_alloc | apply pw_below_drewN | apply below_drew1) | exact HB.out)) hb); clear HO162; clear HO165; clear HO168; clear HB; have HO162 := n0_; have HO165 := n1_; have HO168 := n2_; have HO171 := n3_; have HB := n4_; clear n0_ n1_ n2_ n3_ n4_; (try clear hb); (try clear hb2); (try clear hk); (try clear hi); (try clear ho0); obtain ⟨Ao34, co34, eo34⟩ := Kd.R_slice HO171.out; subst eo34) | ((with_reducible refine gate_callee (f := 10) rfl ?_); refine goesL_ (some 40) rfl rfl Try.func10 (by kernel_rfl) rfl #[.slice Ao34 t169.length co34] rfl (by (try simp only [List.map_toArray, List.map_cons, List.map_nil]); first | done | rfl | (simp only [List.length_drop, List.length_take]; rfl)) ?_; (with_reducible refine (code_ReadShort.calls kj4 _ _ t169 t172 t173 t174 _ ?side1 ?side2 A14.out).mono ?_); (case side1 => repeat (first | exact (Kd.R_reads' HO171.out).2.2 | (with_reducible refine Kd.C_alloc ?_ _) | (with_reducible refine Kd.C_drewN ?_ _) | (with_reducible refine Kd.C_drew ?_))); (case side2 => exact (Kd.R_reads' HO171.out).2.1); rintro e w' ⟨rfl, ⟨nd, rfl⟩⟩; refine ⟨_, rfl, ?_⟩; obtain ⟨Ao35, co35, eo35⟩ := Kd.R_slice HO165.out; subst eo35) | ((with_reducible refine gate_callee (f := 17) rfl ?_); refine goesL_ (some 47) rfl rfl Try.func17 (by kernel_rfl) rfl #[.slice Ao35 t163.length co35, .slice A3 l3.length c3] rfl (by (try simp only [List.map_toArray, List.map_cons, List.map_nil]); first | done | rfl | (simp only [List.length_drop, List.length_take]; rfl)) ?_; (with_reducible refine (rickyardlaw04_with.calls _ _ t163 _ _ l3 t175 _ ?side1 ?side2 ?side3 ?side4 A15.out).mono ?_); (case side1 => repeat (first | exact (Kd.R_reads' HO165.out).2.2 | (with_reducible refine Kd.C_alloc ?_ _) | (with_reducible refine Kd.C_drewN ?_ _) | (with_reducible refine Kd.C_drew ?_))); (case side2 => exact (Kd.R_reads' HO165.out).2.1); (case side3 => repeat (first | exact (Kd.C_below HR3.out (by repeat (first | (with_reducible first | exact HB.out | apply below_alloc | apply pw_below_drewN | apply below_drew1) | exact HB.out))) | (with_reducible refine Kd.C_alloc ?_ _) | (with_reducible refine Kd.C_drewN ?_ _) | (with_reducible refine Kd.C_drew ?_))); (case side4 => exact HC3.out); rintro e w36 ⟨v176, rfl, ho0, hb⟩; refine ⟨_, rfl, ?_⟩; have n0_ := Aside0.mk (Kd.R_elder' (by (with_reducible repeat (first | apply Kd.R_alloc | apply Kd.R_drewN | apply Kd.R_drew)); exact HO162.out) (Kd.R_base ho0) hb); have n1_ := Aside0.mk (Kd.R_elder' (by (with_reducible repeat (first | apply Kd.R_alloc | apply Kd.R_drewN | apply Kd.R_drew)); exact HO165.out) (Kd.R_base ho0) hb); have n2_ := Aside0.mk (Kd.R_elder' (by (with_reducible repeat (first | apply Kd.R_alloc | apply Kd.R_drewN | apply Kd.R_drew)); exact HO168.out) (Kd.R_base ho0) hb); have n3_ := Aside0.mk (Kd.R_elder' (by (with_reducible repeat (first | apply Kd.R_alloc | apply Kd.R_drewN | apply Kd.R_drew)); exact HO171.out) (Kd.R_base ho0) hb); have n4_ := Aside0.mk (Kd.R_lower (Kd.R_new' (Kd.R_new' (Kd.R_new' (Kd.R_new' ho0 (Kd.R_lt (by (with_reducible repeat (first | apply Kd.R_alloc | apply Kd.R_drewN | apply Kd.R_drew)); exact HO162.out))) (Kd.R_lt (by (with_reducible repeat (first | apply Kd.R_alloc | apply Kd.R_drewN | apply Kd.R_drew)); exact HO165.out))) (Kd.R_lt (by (with_reducible repeat (first | apply Kd.R_alloc | apply Kd.R_drewN | apply Kd.R_drew)); exact HO168.out))) (Kd.R_lt (by (with_reducible repeat (first | apply Kd.R_alloc | apply Kd.R_drewN | apply Kd.R_drew)); exact HO171.out))) (below_size (by repeat (first | (with_reducible first | exact HB.out | apply below_alloc | apply pw_below_drewN | apply below_drew1) | exact HB.out)))); have n5_ := Aside0.mk (below_step (by repeat (first | (with_reducible first | exact HB.out | apply below_alloc | apply pw_below_drewN | apply below_drew1) | exact HB.out)) hb); clear HO162; clear HO165; clear HO168; clear HO171; clear HB; have HO162 := n0_; have HO165 := n1_; have HO168 := n2_; have HO171 := n3_; have HO177 := n4_; have HB := n5_; clear n0_ n1_ n2_ n3_ n4_ n5_; (try clear hb); (try clear hb2); (try clear hk); (try clear hi); (try clear ho0); obtain ⟨Ao37, co37, eo37⟩ := Kd.R_slice HO177.out; subst eo37) | ((with_reducible refine gate_callee (f := 19) rfl ?_); refine goesL_ (some 48) rfl rfl Try.func19 (by kernel_rfl) rfl #[.slice Ao37 t175.length co37] rfl (by (try simp only [List.map_toArray, List.map_cons, List.map_nil]); first | done | rfl | (simp only [List.length_drop, List.length_take]; rfl)) ?_; (with_reducible refine (code_ReadNumber.calls kj4 _ _ t175 t178 t179 t180 _ ?side1 ?side2 A16.out).mono ?_); (case side1 => repeat (first | exact (Kd.R_reads' HO177.out).2.2 | (with_reducible refine Kd.C_alloc ?_ _) | (with_reducible refine Kd.C_drewN ?_ _) | (with_reducible refine Kd.C_drew ?_))); (case side2 => exact (Kd.R_reads' HO177.out).2.1); rintro e w' ⟨rfl, ⟨nd, rfl⟩⟩; refine ⟨_, rfl, ?_⟩; obtain ⟨Ao38, co38, eo38⟩ := Kd.R_slice HO168.out; subst eo38) | ((with_reducible refine gate_callee (f := 17) rfl ?_); refine goesL_ (some 55) rfl rfl Try.func17 (by kernel_rfl) rfl #[.slice Ao38 t166.length co38, .slice A3 l3.length c3] rfl (by (try simp only [List.map_toArray, List.map_cons, List.map_nil]); first | done | rfl | (simp only [List.length_drop, List.length_take]; rfl)) ?_; (with_reducible refine (rickyardlaw04_with.calls _ _ t166 _ _ l3 t181 _ ?side1 ?side2 ?side3 ?side4 A17.out).mono ?_); (case side1 => repeat (first | exact (Kd.R_reads' HO168.out).2.2 | (with_reducible refine Kd.C_alloc ?_ _) | (with_reducible refine Kd.C_drewN ?_ _) | (with_reducible refine Kd.C_drew ?_))); (case side2 => exact (Kd.R_reads' HO168.out).2.1); (case side3 => repeat (first | exact (Kd.C_below HR3.out (by repeat (first | (with_reducible first | exact HB.out | apply below_alloc | apply pw_below_drewN | apply below_drew1) | exact HB.out))) | (with_reducible refine Kd.C_alloc ?_ _) | (with_reducible refine Kd.C_drewN ?_ _) | (with_reducible refine Kd.C_drew ?_))); (case side4 => exact HC3.out); rintro e w39 ⟨v182, rfl, ho0, hb⟩; refine ⟨_, rfl, ?_⟩; have n0_ := Aside0.mk (Kd.R_elder' (by (with_reducible repeat (first | apply Kd.R_alloc | apply Kd.R_drewN | apply Kd.R_drew)); exact HO162.out) (Kd.R_base ho0) hb); have n1_ := Aside0.mk (Kd.R_elder' (by (with_reducible repeat (first | apply Kd.R_alloc | apply Kd.R_drewN | apply Kd.R_drew)); exact HO165.out) (Kd.R_base ho0) hb); have n2_ := Aside0.mk (Kd.R_elder' (by (with_reducible repeat (first | apply Kd.R_alloc | apply Kd.R_drewN | apply Kd.R_drew)); exact HO168.out) (Kd.R_base ho0) hb); have n3_ := Aside0.mk (Kd.R_elder' (by (with_reducible repeat (first | apply Kd.R_alloc | apply Kd.R_drewN | apply Kd.R_drew)); exact HO171.out) (Kd.R_base ho0) hb); have n4_ := Aside0.mk (Kd.R_elder' (by (with_reducible repeat (first | apply Kd.R_alloc | apply Kd.R_drewN | apply Kd.R_drew)); exact HO177.out) (Kd.R_base ho0) hb); have n5_ := Aside0.mk (Kd.R_lower (Kd.R_new' (Kd.R_new' (Kd.R_new' (Kd.R_new' (Kd.R_new' ho0 (Kd.R_lt (by (with_reducible repeat (first | apply Kd.R_alloc | apply Kd.R_drewN | apply Kd.R_drew)); exact HO162.out))) (Kd.R_lt (by (with_reducible repeat (first | apply Kd.R_alloc | apply Kd.R_drewN | apply Kd.R_drew)); exact HO165.out))) (Kd.R_lt (by (with_reducible repeat (first | apply Kd.R_alloc | apply Kd.R_drewN | apply Kd.R_drew)); exact HO168.out))) (Kd.R_lt (by (with_reducible repeat (first | apply Kd.R_alloc | apply Kd.R_drewN | apply Kd.R_drew)); exact HO171.out))) (Kd.R_lt (by (with_reducible repeat (first | apply Kd.R_alloc | apply Kd.R_drewN | apply Kd.R_drew)); exact HO177.out))) (below_size (by repeat (first | (with_reducible first | exact HB.out | apply below_alloc | apply pw_below_drewN | apply below_drew1) | exact HB.out)))); have n6_ := Aside0.mk (below_step (by repeat (first | (with_reducible first | exact HB.out | apply below_alloc | apply pw_below_drewN | apply below_drew1) | exact HB.out)) hb); clear HO162; clear HO165; clear HO168; clear HO171; clear HO177; clear HB; have HO162 := n0_; have HO165 := n1_; have HO168 := n2_; have HO171 := n3_; have HO177 := n4_; have HO183 := n5_; have HB := n6_; clear n0_ n1_ n2_ n3_ n4_ n5_ n6_; (try clear hb); (try clear hb2); (try clear hk); (try clear hi); (try clear ho0); obtain ⟨Ao40, co40, eo40⟩ := Kd.R_slice HO183.out; subst eo40) | ((with_reducible refine gate_callee (f := 18) rfl ?_); refine goesL_ (some 56) rfl rfl Try.func18 (by kernel_rfl) rfl #[.slice Ao40 t181.length co40] rfl (by (try simp only [List.map_toArray, List.map_cons, List.map_nil]); first | done | rfl | (simp only [List.length_drop, List.length_take]; rfl)) ?_; (with_reducible refine (code_ReadText.calls kj4 _ _ t181 t184 t185 t186 _ ?side1 ?side2 A18.out).mono ?_); (case side1 => repeat (first | exact (Kd.R_reads' HO183.out).2.2 | (with_reducible refine Kd.C_alloc ?_ _) | (with_reducible refine Kd.C_drewN ?_ _) | (with_reducible refine Kd.C_drew ?_))); (case side2 => exact (Kd.R_reads' HO183.out).2.1); rintro e w41 ⟨rfl, hb⟩; refine ⟨_, rfl, ?_⟩; have n0_ := Aside0.mk (Kd.R_below (by (with_reducible repeat (first | apply Kd.R_alloc | apply Kd.R_drewN | apply Kd.R_drew)); exact HO162.out) hb); have n1_ := Aside0.mk (Kd.R_below (by (with_reducible repeat (first | apply Kd.R_alloc | apply Kd.R_drewN | apply Kd.R_drew)); exact HO165.out) hb); have n2_ := Aside0.mk (Kd.R_below (by (with_reducible repeat (first | apply Kd.R_alloc | apply Kd.R_drewN | apply Kd.R_drew)); exact HO168.out) hb); have n3_ := Aside0.mk (Kd.R_below (by (with_reducible repeat (first | apply Kd.R_alloc | apply Kd.R_drewN | apply Kd.R_drew)); exact HO171.out) hb); have n4_ := Aside0.mk (Kd.R_below (by (with_reducible repeat (first | apply Kd.R_alloc | apply Kd.R_drewN | apply Kd.R_drew)); exact HO177.out) hb); have n5_ := Aside0.mk (Kd.R_below (by (with_reducible repeat (first | apply Kd.R_alloc | apply Kd.R_drewN | apply Kd.R_drew)); exact HO183.out) hb); have n6_ := Aside0.mk (below_step (by repeat (first | (with_reducible first | exact HB.out | apply below_alloc | apply pw_below_drewN | apply below_drew1) | exact HB.out)) hb); clear HO162; clear HO165; clear HO168; clear HO171; clear HO177; clear HO183; clear HB; have HO162 := n0_; have HO165 := n1_; have HO168 := n2_; have HO171 := n3_; have HO177 := n4_; have HO183 := n5_; have HB := n6_; clear n0_ n1_ n2_ n3_ n4_ n5_ n6_; (try clear hb); (try clear hb2); (try clear hk); (try clear hi)) | ((with_reducible refine gate_callee (f := 12) rfl ?_); refine goesL_ (some 60) rfl rfl Try.func12 (by kernel_rfl) rfl #[] rfl (by (try simp only [List.map_toArray, List.map_cons, List.map_nil]); first | done | rfl | (simp only [List.length_drop, List.length_take]; rfl)) ?_; (with_reducible refine (rickyardlaw04_alive.calls kj4  true _ A19.out).mono ?_); rintro e w42 ⟨rfl, hb⟩; refine ⟨_, rfl, ?_⟩; have n0_ := Aside0.mk (Kd.R_below (by (with_reducible repeat (first | apply Kd.R_alloc | apply Kd.R_drewN | apply Kd.R_drew)); exact HO162.out) hb); have n1_ := Aside0.mk (Kd.R_below (by (with_reducible repeat (first | apply Kd.R_alloc | apply Kd.R_drewN | apply Kd.R_drew)); exact HO165.out) hb); have n2_ := Aside0.mk (Kd.R_below (by (with_reducible repeat (first | apply Kd.R_alloc | apply Kd.R_drewN | apply Kd.R_drew)); exact HO168.out) hb); have n3_ := Aside0.mk (Kd.R_below (by (with_reducible repeat (first | apply Kd.R_alloc | apply Kd.R_drewN | apply Kd.R_drew)); exact HO171.out) hb); have n4_ := Aside0.mk (Kd.R_below (by (with_reducible repeat (first | apply Kd.R_alloc | apply Kd.R_drewN | apply Kd.R_drew)); exact HO177.out) hb); have n5_ := Aside0.mk (Kd.R_below (by (with_reducible repeat (first | apply Kd.R_alloc | apply Kd.R_drewN | apply Kd.R_drew)); exact HO183.out) hb); have n6_ := Aside0.mk (below_step (by repeat (first | (with_reducible first | exact HB.out | apply below_alloc | apply pw_below_drewN | apply below_drew1) | exact HB.out)) hb); clear HO162; clear HO165; clear HO168; clear HO171; clear HO177; clear HO183; clear HB; have HO162 := n0_; have HO165 := n1_; have HO168 := n2_; have HO171 := n3_; have HO177 := n4_; have HO183 := n5_; have HB := n6_; clear n0_ n1_ n2_ n3_ n4_ n5_ n6_; (try clear hb); (try clear hb2); (try clear hk); (try clear hi)))
                          go_ret
                          exact ⟨by first | rfl | (simp [errW_none, errW_some] <;> rfl) | (simp [*, errW_none, errW_some] <;> rfl), by repeat (first | (with_reducible first | exact HB.out | apply below_alloc | apply pw_below_drewN | apply below_drew1) | exact HB.out)⟩
                        · rw [if_neg c28] at H
                          exact absurd (H.trans (congrArg some HT.out)) (by simp)
                      · rw [if_neg c27] at H
                        exact absurd (H.trans (congrArg some HT.out)) (by simp)
                    · rw [if_neg c26] at H
                      exact absurd (H.trans (congrArg some HT.out)) (by simp)
                  · rw [if_neg c25] at H
                    exact absurd (H.trans (congrArg some HT.out)) (by simp)
                · rw [if_neg c24] at H
                  exact absurd (H.trans (congrArg some HT.out)) (by simp)
              · rw [if_neg c23] at H
                exact absurd (H.trans (congrArg some HT.out)) (by simp)
            · rw [if_neg c22] at H
              exact absurd (H.trans (congrArg some HT.out)) (by simp)
          · rw [if_neg c21] at H
            exact absurd (H.trans (congrArg some HT.out)) (by simp)
        · replace c20 := Bool.eq_false_iff.mpr c20
          subst c20
          have H1 : (some false) = some r := by rw [if_neg (show ¬ (false = true) by decide)] at H; exact H
          exact absurd (H1.trans (congrArg some HT.out)) (by simp)

/-- THE ONE PURE STATEMENT of rickyardlaw04_CodeBack: yours. -/
def rickyardlaw04_CodeBack.Pure : Prop := ∀ (a0 : Int) (a1 : Int) (a2 : ByteArray) (l3 : List Int), (Lit.int .u64 a0).wf = true → (Lit.int .i64 a1).wf = true → a2.size ≤ 140737488351232 → l3.length ≤ maxLen → l3.length * 1 ≤ 140737488351232 → (∀ x ∈ l3, (Lit.int .u8 x).wf = true) → ∃ k, rickyardlaw04_CodeBack.f k a0 a1 a2 l3 = some true
theorem rickyardlaw04_CodeBack.walk (P : rickyardlaw04_CodeBack.Pure) (a0 : Int) (a1 : Int) (a2 : ByteArray) (a3 : Option Addr) (len3 cap3 : Nat) (z3 : List Int) (w : World) (w0 : (Lit.int .u64 a0).wf = true) (w1 : (Lit.int .i64 a1).wf = true) (w2 : a2.size ≤ 140737488351232) (w3 : (a3 = none ∧ len3 = 0 ∧ cap3 = 0 ∧ z3 = []) ∨ ∃ x, a3 = some x ∧ len3 ≤ cap3 ∧ cap3 ≤ maxLen ∧ z3.length = cap3 ∧ (∀ i, i < z3.length → w.cell? (x.add i) = some (.int .u8 (z3.getD i 0))) ∧ ∀ n ∈ z3, (Lit.int .u8 n).wf = true) (y3 : len3 * 1 ≤ 140737488351232) :
    Calls Try.prog 9 #[.int .u64 a0, .int .i64 a1, .string a2, .slice a3 len3 cap3] w fun e w' => e = .returned (.bool true) ∧ Below w.heap.size w w' := by
  obtain ⟨l3, rfl, hr3, hm3, hw3, hc3⟩ := ReadsInt.ofRowC w3
  obtain ⟨k, h⟩ := P a0 a1 a2 l3 w0 w1 w2 hm3 y3 hw3
  refine (rickyardlaw04_CodeBack.calls k a0 a1 a2 _ _ l3 true w (Kd.C_of_reads (d := (0 : Int)) (h1 := fun _ => rfl) hr3) hc3 rfl h).mono ?_
  rintro e w' ⟨rfl, hd⟩
  exact ⟨rfl, hd⟩

end Go.Proofs.Ytjgcllkcppmmaaa.Lib
