/-
  A key, a row of texts, a row of bytes, as the row hands them: opened to what their cells hold; condition: that they can be read.
-/
import Derived.Test.YticaoeliokkifaaLib0
import Derived.SliceStrings
import Derived.ChangeSlices
import Derived.Lib.SmallJoins
import Derived.ChangeSame
import Derived.OpenShut
namespace Go.Proofs.Yticaoeliokkifaa.Open
open Go.ChangeShapes Go.WideShapes Go.Deep Go.RowKit Go.Proofs.YticaoeliokkifaaW.PrintWords Go.Proofs.YticaoeliokkifaaW.PrintLast Go.Proofs.YticaoeliokkifaaW.PrintMore
set_option linter.unusedSimpArgs false
set_option linter.unusedVariables false
section
variable {H : Type} {enc : TypeId × Value → H} {w : World} {base : Nat} {spare : Nat → Bool} {held : Bool} {fuel : Nat}
/-- Texts, as a row hands them. -/
def Texts (w : World) (A : Option Addr) (cap : Nat) (l : List ByteArray) : Prop := Kd.C Kd.string w A l.length l ∧ l.length ≤ cap ∧ cap ≤ maxLen ∧ ∀ s ∈ l, s.size ≤ maxLen
/-- Bytes, as a row hands them. -/
def Bytes (w : World) (A : Option Addr) (cap : Nat) (l : List Int) : Prop := Kd.C (Kd.int .u8) w A l.length l ∧ l.length ≤ cap ∧ cap ≤ maxLen ∧ ∀ z ∈ l, 0 ≤ z ∧ z < 256
/-- A number of 64 bits. -/
def I64 (z : Int) : Prop := -9223372036854775808 ≤ z ∧ z ≤ 9223372036854775807
theorem u8_wf (z : Int) : (Lit.int .u8 z).wf = true ↔ 0 ≤ z ∧ z < 256 := by
  have h1 : IntKind.u8.min = 0 := by kernel_rfl
  have h2 : IntKind.u8.max = 255 := by kernel_rfl
  simp only [Lit.wf, h1, h2, Bool.and_eq_true, decide_eq_true_eq]
  omega
theorem i64_wf {z : Int} (h : (Lit.int .i64 z).wf = true) : I64 z := by
  have h1 : IntKind.i64.min = -9223372036854775808 := by kernel_rfl
  have h2 : IntKind.i64.max = 9223372036854775807 := by kernel_rfl
  simp only [Lit.wf, h1, h2, Bool.and_eq_true, decide_eq_true_eq] at h
  exact h
theorem texts_cs {v : Value} {x : DataW H × List MemPlace} (h : DataW.trod enc Try.prog w base spare held fuel 22 [v] = some x) : ∃ A l c, v = .slice A l.length c ∧ Texts w A c l := by
  rcases open_strings Try.underlying22 Try.underlying9 (by kernel_rfl) h with ⟨hcs, _⟩ | ⟨a, len, cap, ss, hcs, _, hl, hm, hz, _, hcell, hws⟩
  · simp at hcs
    subst hcs
    exact ⟨none, [], 0, rfl, ⟨rfl, by simp, fun h => absurd h (Nat.lt_irrefl 0)⟩, Nat.le_refl _, by unfold maxLen; omega, fun s hs => by simp at hs⟩
  · simp at hcs
    subst hcs
    have hle : len ≤ ss.length := by rw [hz]; split <;> omega
    have hlen : (ss.take len).length = len := by simp; omega
    refine ⟨some a, ss.take len, cap, by rw [hlen], ⟨rfl, by rw [hlen]; simp only [maxLen] at hm; omega, fun _ => ⟨a, rfl, fun j p hp => ?_⟩⟩, by rw [hlen]; exact hl, hm, fun s hs => hws s (List.mem_of_mem_take hs)⟩
    have hj : j < len := by
      have := (List.getElem?_eq_some_iff.1 hp).1
      omega
    have hp' : ss[j]? = some p := by rw [List.getElem?_take_of_lt hj] at hp; exact hp
    have hc := hcell j (by omega)
    rw [List.getD_eq_getElem?_getD, hp'] at hc
    refine ⟨[.string p], rfl, rfl, fun i u hu => ?_⟩
    rcases i with _ | i
    · simp at hu
      subst hu
      rw [show j * Kd.string.sz + 0 = j by show j * 1 + 0 = j; omega]
      exact hc
    · simp at hu
theorem bytes_cs {v : Value} {x : DataW H × List MemPlace} (h : DataW.trod enc Try.prog w base spare held fuel 25 [v] = some x) : ∃ A l c, v = .slice A l.length c ∧ Bytes w A c l := by
  rcases open_ints Try.underlying25 Try.underlying5 (by kernel_rfl) h with ⟨hcs, _⟩ | ⟨a, len, cap, ss, hcs, _, hl, hm, hz, _, hcell, hws⟩
  · simp at hcs
    subst hcs
    exact ⟨none, [], 0, rfl, ⟨rfl, by simp, fun h => absurd h (Nat.lt_irrefl 0)⟩, Nat.le_refl _, by unfold maxLen; omega, fun s hs => by simp at hs⟩
  · simp at hcs
    subst hcs
    have hle : len ≤ ss.length := by rw [hz]; split <;> omega
    have hlen : (ss.take len).length = len := by simp; omega
    refine ⟨some a, ss.take len, cap, by rw [hlen], ⟨rfl, by rw [hlen]; simp only [maxLen] at hm; omega, fun _ => ⟨a, rfl, fun j p hp => ?_⟩⟩, by rw [hlen]; exact hl, hm, fun z hz => ?_⟩
    · have hj : j < len := by
        have := (List.getElem?_eq_some_iff.1 hp).1
        omega
      have hp' : ss[j]? = some p := by rw [List.getElem?_take_of_lt hj] at hp; exact hp
      have hc := hcell j (by omega)
      rw [List.getD_eq_getElem?_getD, hp'] at hc
      refine ⟨[.int .u8 p], rfl, rfl, fun i u hu => ?_⟩
      rcases i with _ | i
      · simp at hu
        subst hu
        rw [show j * (Kd.int .u8).sz + 0 = j by show j * 1 + 0 = j; omega]
        exact hc
      · simp at hu
    · have := hws z (List.mem_of_mem_take hz)
      have h2 := (u8_wf z).1 this
      exact h2
/-- A key, by value. -/
theorem open_key {b0 : Nat} {v : Value} {d : DataW H} {p : List MemPlace} (hv : Value.okWide Try.prog w .any b0 24 v) (h : DataW.Trod enc Try.prog w base spare held 24 v d p) :
    ∃ A l c z g, v = .agg #[.slice A l.length c, .int .i64 z, .int .i64 g] ∧ Texts w A c l ∧ I64 z ∧ I64 g := by
  obtain ⟨v0, v1, v2, y0, y1, y2, n, rfl, _, _, t0, t1, t2⟩ := Go.Joins.open_agg3 Try.underlying24 (by kernel_rfl) (by kernel_rfl) hv h
  obtain ⟨A, l, c, rfl, hl⟩ := texts_cs t0
  obtain ⟨z, e1, _, w1⟩ := DataW.trod_int Try.underlying2 t1
  obtain ⟨g, e2, _, w2⟩ := DataW.trod_int Try.underlying3 t2
  simp at e1 e2
  subst e1; subst e2
  exact ⟨A, l, c, z, g, rfl, hl, i64_wf w1, i64_wf w2⟩
theorem open_texts {b0 : Nat} {v : Value} {d : DataW H} {p : List MemPlace} (hv : Value.okWide Try.prog w .any b0 22 v) (h : DataW.Trod enc Try.prog w base spare held 22 v d p) : ∃ A l c, v = .slice A l.length c ∧ Texts w A c l := by
  obtain ⟨a, len, cap, rfl⟩ := okWide_slice Try.underlying22 hv
  obtain ⟨fuel, hf⟩ := h
  exact texts_cs hf
theorem open_bytes {b0 : Nat} {v : Value} {d : DataW H} {p : List MemPlace} (hv : Value.okWide Try.prog w .any b0 25 v) (h : DataW.Trod enc Try.prog w base spare held 25 v d p) : ∃ A l c, v = .slice A l.length c ∧ Bytes w A c l := by
  obtain ⟨a, len, cap, rfl⟩ := okWide_slice Try.underlying25 hv
  obtain ⟨fuel, hf⟩ := h
  exact bytes_cs hf
end
end Go.Proofs.Yticaoeliokkifaa.Open
