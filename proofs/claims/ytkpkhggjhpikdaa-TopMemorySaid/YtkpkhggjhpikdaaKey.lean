/-
  The contracts of key.Write, key.Read and key.Less in plain words; conditions: those that each theorem states.
-/
import Derived.Test.YtkpkhggjhpikdaaKLaws
import Derived.Test.YtkpkhggjhpikdaaBytes
namespace Go.Proofs.Ytkpkhggjhpikdaa.Top
set_option linter.unusedSimpArgs false
set_option linter.unusedVariables false
open Go.RowKit Go.Proofs.YtkpkhggjhpikdaaW.PrintWords Go.Proofs.YtkpkhggjhpikdaaW.PrintLast Go.Proofs.YtkpkhggjhpikdaaW.PrintMore Go.Proofs.Ytkpkhggjhpikdaa.Plain Go.Proofs.Ytkpkhggjhpikdaa.KFns Go.Proofs.Ytkpkhggjhpikdaa.Fns
/-- A row of texts that can be read. -/
def RdS (w : World) (A : Option Addr) (l : List ByteArray) : Prop := Kd.string.C w A l.length l
theorem RdS.below {w w1 : World} {A : Option Addr} {l : List ByteArray} (h : RdS w A l) (hb : Below w.heap.size w w1) : RdS w1 A l := Kd.C_below h hb
theorem RdS.drewN {w : World} {A : Option Addr} {l : List ByteArray} (h : RdS w A l) (n : Nat) : RdS (w.drewN n) A l := Kd.C_drewN h n
def keyV (A : Option Addr) (n c : Nat) (z g : Int) : Value := .agg #[.slice A n c, .int .i64 z, .int .i64 g]
theorem write_good {w : World} {A : Option Addr} {c : Nat} {l : List ByteArray} {z : Int} (h : RdS w A l) (hc : l.length ≤ c) (hr : rightB l z 0 = true) :
    Calls Try.prog 8 #[keyV A l.length c z 0] w fun e w' => ∃ v, e = .returned (.tuple #[v, .int .i64 0]) ∧ w'.ownsRow w.heap.size 5 1 v (kb l z 0).length (nums .u8 (kb l z 0)) ∧ Below w.heap.size w w' := by
  obtain ⟨k, hk⟩ := ev_write l z 0
  have hw : wr l z 0 = (kb l z 0, 0) := by unfold wr; rw [if_pos hr]
  have hk' := hk k (Nat.le_refl _)
  rw [hw] at hk'
  exact (Lib.key_Write.calls k A c l z 0 _ _ w h hc hk').mono fun e w' ⟨v, he, hR, hb⟩ => ⟨v, he, Kd.own_of_R hR, hb⟩
theorem write_bad {w : World} {A : Option Addr} {c : Nat} {l : List ByteArray} {z : Int} (h : RdS w A l) (hc : l.length ≤ c) (hr : rightB l z 0 = false) :
    Calls Try.prog 8 #[keyV A l.length c z 0] w fun e w' => ∃ v, e = .returned (.tuple #[v, .int .i64 40]) ∧ Below w.heap.size w w' := by
  obtain ⟨k, hk⟩ := ev_write l z 0
  have hw : wr l z 0 = ([], 40) := by unfold wr; rw [if_neg (by rw [hr]; simp)]
  have hk' := hk k (Nat.le_refl _)
  rw [hw] at hk'
  exact (Lib.key_Write.calls k A c l z 0 _ _ w h hc hk').mono fun e w' ⟨v, he, hR, hb⟩ => ⟨v, he, hb⟩
theorem read_good {w : World} {A : Option Addr} {c : Nat} {l : List ByteArray} {z g : Int} (hr : rightB l z g = true) (h : RdB w A (kb l z g)) (hc : (kb l z g).length ≤ c) :
    Calls Try.prog 13 #[.slice A (kb l z g).length c] w fun e w' => ∃ B d, e = .returned (.tuple #[keyV B l.length d z g, .int .i64 0]) ∧ RdS w' B l ∧ l.length ≤ d ∧ Below w.heap.size w w' := by
  have hk := kb_length hr
  obtain ⟨r, ⟨k, hev⟩, hi⟩ := ev_read (kb_byt hr) (by omega)
  have e : r = (l, z, g, 0) := isRead_uniq hi (.inl ⟨l, z, g, by simpa using hr, rfl, by simp⟩)
  subst e
  refine (Lib.key_Read.calls k A c (kb l z g) l z g 0 w h hc (hev k (Nat.le_refl _))).mono fun e w' ⟨v, he, hR, hb⟩ => ?_
  obtain ⟨B, d, rfl, hd, hC⟩ := Kd.R_reads hR
  exact ⟨B, d, he, hC, hd, hb⟩
theorem less_good {w : World} {A B : Option Addr} {c d : Nat} {l m : List ByteArray} {z g z' g' : Int} (h : RdS w A l) (hc : l.length ≤ c) (h' : RdS w B m) (hd : m.length ≤ d) (hl : l.length ≤ 1000) (hm : m.length ≤ 1000) :
    Calls Try.prog 15 #[keyV A l.length c z g, keyV B m.length d z' g'] w fun e w' => e = .returned (.bool (lessB l z g m z' g')) ∧ Below w.heap.size w w' := by
  obtain ⟨k, hk⟩ := ev_less (l := l) (m := m) (by omega) (by omega) z g z' g'
  exact Lib.key_Less.calls k A c l z g B d m z' g' _ w h hc h' hd (hk k (Nat.le_refl _))
end Go.Proofs.Ytkpkhggjhpikdaa.Top
