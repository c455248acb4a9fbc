/-
  What must come of fixed calls (alive04); conditions: those that each theorem states.
-/
import Derived.Test.YtkpkhggjhpikdaaMay
import Derived.Test.YtkpkhggjhpikdaaKey
namespace Go.Proofs.Ytkpkhggjhpikdaa.Top
set_option linter.unusedSimpArgs false
set_option linter.unusedVariables false
open Go.RowKit Go.Proofs.YtkpkhggjhpikdaaW.PrintWords Go.Proofs.YtkpkhggjhpikdaaW.PrintLast Go.Proofs.YtkpkhggjhpikdaaW.PrintMore Go.Proofs.Ytkpkhggjhpikdaa.Plain Go.Proofs.Ytkpkhggjhpikdaa.KFns Go.Proofs.Ytkpkhggjhpikdaa.Fns
theorem kb0_len : (kb [] 0 0).length = 10 := by decide
theorem right0 : rightB [] 0 0 = true := by decide
theorem FlAt.gs {w w1 : World} {base F g hs : Nat} {bl : List Int} (h : FlAt w base F g hs bl) (hg : Gs w w1) : FlAt w1 base F g hs bl :=
  h.move ((hg.2 _ _ h.fb (fun cs e => by simp at e) (fun cs e => by simp at e)).trans h.fb.symm) ((hg.2 _ _ h.gb (fun cs e => by simp at e) (fun cs e => by simp at e)).trans h.gb.symm)
theorem own_gs {w w1 : World} {base n : Nat} {v : Value} {xs : List Value} (h : w.ownsRow base 5 1 v n xs) (hg : Gs w w1) : w1.ownsRow base 5 1 v n xs := own_move h fun k hk => by
  obtain ⟨cs, hc⟩ := own_typed h k hk
  exact (hg.2 _ _ hc (fun cs e => by simp at e) (fun cs e => by simp at e)).trans hc.symm
theorem own_read {w : World} {base c : Nat} {A : Option Addr} {k : List Int} (h : w.ownsRow base 5 1 (.slice A k.length c) k.length (nums .u8 k)) : RdB w A k := by
  obtain ⟨A', c', he, hr, _⟩ := own_rdb h
  cases he
  exact hr
theorem mayF_zero (d : Nat) (k : List Int) (hs : Nat) (hh : 1 ≤ hs) : mayF (List.replicate d 0) k hs = false := by
  obtain ⟨n, rfl⟩ : ∃ n, hs = n + 1 := ⟨hs - 1, by omega⟩
  unfold mayF plF
  rw [List.all_cons]
  have : ∀ p, hasB (List.replicate d 0) p = false := fun p => by
    rw [hasB_eq (fun x hx => by rw [List.mem_replicate] at hx; omega)]
    have e : (List.replicate d (0 : Int)).getD (p / 8).toNat 0 = 0 := by
      rw [List.getD_eq_getElem?_getD, List.getElem?_replicate]
      split <;> rfl
    rw [e]
    simp
  rw [this, Bool.false_and]
set_option maxRecDepth 100000 in
set_option maxHeartbeats 4000000 in
theorem alive_c (w : World) : Calls Try.prog 5 #[] w fun e w' => e = .returned (.bool true) ∧ Below w.heap.size w w' := by
  go_enter Try.func5, Try.ntmps5
  have hkl := kb0_len
  go_wp2_with (first
    | (refine (skip_new _).mono ?_; rintro e w2 ⟨rfl, hsk, hb2⟩; unfold ptr)
    | (refine (write_good (w := w2) (A := none) (c := 0) (l := []) (z := 0) (Kd.C_nil _ _) (Nat.le_refl _) right0).mono ?_; rintro e w3 ⟨v, rfl, hown, hb3⟩; obtain ⟨A, c, rfl, hr, hc⟩ := own_rdb hown; obtain ⟨a, rfl⟩ := hr.some (by omega))
    | (refine (bloom_new (w := w3) 1 1 (by omega) (by omega) (by omega) (by omega)).mono ?_; rintro e w4 ⟨F, g, rfl, hfl, hb4⟩)
    | (refine (one_c 1 w4).mono ?_; rintro e w5 ⟨rfl, hb5⟩
       have hb45 := hb4.trans (hb5.mono hb4.size)
       have hput := put_c (w := w5) (base := w.heap.size) (L := w.heap.size) (h := 1) (v := 1) (ns := []) (Nat.le_trans hb2.size (Nat.le_trans hb3.size hb45.size)) ((hsk w.heap.size).below (hb3.trans (hb45.mono hb3.size))) (hr.below hb45) hc (kb_byt right0) (by omega) (by omega) (by omega) (by omega) (Nat.zero_le _) (by omega) 0 (by omega) (fun _ h => by cases h)
       rw [hkl] at hput
       unfold entV ptr at hput
       unfold Ag.v)
    | (refine hput.mono ?_; rintro e w6 ⟨ns', rfl, hsk6, _, _, _, hgs, hb6⟩
       have hown6 := own_gs (own_below hown hb45) hgs
       have hmay := bmay_c (k := kb [] 0 0) ((hfl.below hb5).gs hgs) (own_read hown6) (by omega) (kb_byt right0) (by simp) (by simp) (Nat.le_refl _) (by omega) (c := c)
       rw [hkl] at hmay
       have hz := mayF_zero 1 (kb [] 0 0) 1 (Nat.le_refl _)
       unfold mayF at hz
       rw [hz] at hmay
       unfold ptr at hmay)
    | (refine hmay.mono ?_; rintro e w7 ⟨rfl, hb7⟩))
  go_ret
  have h5 := (hb2.trans (hb3.mono hb2.size)).trans (hb45.mono (Nat.le_trans hb2.size hb3.size))
  rw [Nat.min_self] at hb6
  have h6 := h5.trans hb6
  exact ⟨rfl, h6.trans (hb7.mono h6.size)⟩
end Go.Proofs.Ytkpkhggjhpikdaa.Top
