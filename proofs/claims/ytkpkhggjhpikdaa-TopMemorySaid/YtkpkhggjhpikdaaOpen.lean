/-
  Facts and a row of bytes, as the row hands them: opened to what their cells hold; condition: that they can be read.
-/
import Derived.Test.YtkpkhggjhpikdaaHeld
import Derived.SliceStrings
import Derived.ChangeSlices
import Derived.Lib.SmallJoins
import Derived.ChangeSame
import Derived.OpenShut
import Derived.Deep.Slices
import Derived.Deep.Fields
namespace Go.Proofs.Ytkpkhggjhpikdaa.Open
set_option maxRecDepth 100000
open Go.ChangeShapes Go.WideShapes Go.Deep Go.RowKit Go.Proofs.YtkpkhggjhpikdaaW.PrintWords Go.Proofs.YtkpkhggjhpikdaaW.PrintLast Go.Proofs.YtkpkhggjhpikdaaW.PrintMore
set_option linter.unusedSimpArgs false
set_option linter.unusedVariables false
section
variable {H : Type} {enc : TypeId × Value → H} {P : Program} {w : World} {base : Nat} {spare : Nat → Bool} {held : Bool}
theorem open_slice_fields {t e : TypeId} {fs : Array Field} {fuel : Nat} {cs : List Value} {x : DataW H × List MemPlace} (ht : P.underlying t = some (.slice e)) (he : P.underlying e = some (.struct fs))
    (hone : oneCellFields P fs = true) (hC : P.cellsOf e = fs.size) (h : DataW.trod enc P w base spare held fuel t cs = some x) :
    (cs = [.slice none 0 0] ∧ x = (.nil, [])) ∨
    ∃ (a : Addr) (len cap m : Nat) (D : Nat → DataW H) (Pl : Nat → List MemPlace), cs = [.slice (some a) len cap] ∧ base ≤ a.block ∧ len ≤ cap ∧ cap ≤ maxLen ∧ m = (if spare a.block then cap else len) ∧
      x = (.slice ((List.range len).map D) ((List.range (m - len)).map fun j => D (len + j)), MemPlace.row a (m * fs.size) ++ (List.range m).flatMap Pl) ∧
      ∀ i, i < m → ∃ (ys : List (DataW H × List MemPlace)) (n : Nat), D i = .agg (ys.map (·.1)) ∧ Pl i = ys.flatMap (·.2) ∧ ys.length = fs.size ∧
        ∀ (j : Nat) (f : Field), fs[j]? = some f → ∃ (v : Value) (y : DataW H × List MemPlace), w.cell? (a.add (i * fs.size + j)) = some v ∧ ys[j]? = some y ∧ DataW.trod enc P w base spare held n f.type [v] = some y := by
  rcases open_slice ht h with h0 | ⟨a, len, cap, m, n, D, Pl, hcs, hb, hl, hm, hmm, hx, hi⟩
  · exact .inl h0
  · refine .inr ⟨a, len, cap, m, D, Pl, hcs, hb, hl, hm, hmm, by rw [hC] at hx; exact hx, fun i him => ?_⟩
    obtain ⟨cs', hc, ht'⟩ := hi i him
    rw [hC] at hc
    obtain ⟨ys, n', hn', hy, hlen, hyl, hf⟩ := DataW.trod_struct he ht'
    obtain ⟨_, hcl, hat⟩ := World.cells?_some hc
    simp only [Prod.mk.injEq] at hy
    refine ⟨ys, n', hy.1, hy.2, hyl, fun j f hj => ?_⟩
    obtain ⟨ho, hk⟩ := hone_of hone j f hj
    have hjl : j < fs.size := (Array.getElem?_eq_some_iff.1 hj).1
    have hcell := hat j hjl
    have hv : cs'[j]? = some (cs'[j]'(by omega)) := List.getElem?_eq_getElem (by omega)
    have h1 := hf j f hj
    rw [ho, hk] at h1
    have hone' : (cs'.drop j).take 1 = [cs'[j]'(by omega)] := by
      rw [List.drop_eq_getElem_cons (by omega)]
      rfl
    rw [hone'] at h1
    have hys : ys[j]? = some (ys[j]'(by omega)) := List.getElem?_eq_getElem (by omega)
    refine ⟨_, _, ?_, hys, h1.trans hys⟩
    rw [← Go.Deep.add_add, hcell, hv]
end
section
variable {H : Type} {enc : TypeId × Value → H} {w : World} {base : Nat} {spare : Nat → Bool} {held : Bool} {fuel : Nat}
/-- Texts, as a row hands them. -/
def Texts (w : World) (A : Option Addr) (cap : Nat) (l : List ByteArray) : Prop := Kd.C Kd.string w A l.length l ∧ l.length ≤ cap ∧ cap ≤ maxLen ∧ ∀ s ∈ l, s.size ≤ maxLen
/-- Bytes, as a row hands them. -/
def Bytes (w : World) (A : Option Addr) (cap : Nat) (l : List Int) : Prop := Kd.C (Kd.int .u8) w A l.length l ∧ l.length ≤ cap ∧ cap ≤ maxLen ∧ ∀ z ∈ l, 0 ≤ z ∧ z < 256
/-- A number of 64 bits. -/
def I64 (z : Int) : Prop := -9223372036854775808 ≤ z ∧ z ≤ 9223372036854775807
theorem u8_wf (z : Int) : (Lit.int .u8 z).wf = true ↔ 0 ≤ z ∧ z < 256 := by
  have h1 : IntKind.u8.min = 0 := by kernel_rfl
  have h2 : IntKind.u8.max = 255 := by kernel_rfl
  simp only [Lit.wf, h1, h2, Bool.and_eq_true, decide_eq_true_eq]
  omega
theorem i64_wf {z : Int} (h : (Lit.int .i64 z).wf = true) : I64 z := by
  have h1 : IntKind.i64.min = -9223372036854775808 := by kernel_rfl
  have h2 : IntKind.i64.max = 9223372036854775807 := by kernel_rfl
  simp only [Lit.wf, h1, h2, Bool.and_eq_true, decide_eq_true_eq] at h
  exact h
theorem texts_cs {v : Value} {x : DataW H × List MemPlace} (h : DataW.trod enc Try.prog w base spare held fuel 34 [v] = some x) : ∃ A l c, v = .slice A l.length c ∧ Texts w A c l := by
  rcases open_strings Try.underlying34 Try.underlying9 (by kernel_rfl) h with ⟨hcs, _⟩ | ⟨a, len, cap, ss, hcs, _, hl, hm, hz, _, hcell, hws⟩
  · simp at hcs
    subst hcs
    exact ⟨none, [], 0, rfl, ⟨rfl, by simp, fun h => absurd h (Nat.lt_irrefl 0)⟩, Nat.le_refl _, by unfold maxLen; omega, fun s hs => by simp at hs⟩
  · simp at hcs
    subst hcs
    have hle : len ≤ ss.length := by rw [hz]; split <;> omega
    have hlen : (ss.take len).length = len := by simp; omega
    refine ⟨some a, ss.take len, cap, by rw [hlen], ⟨rfl, by rw [hlen]; simp only [maxLen] at hm; omega, fun _ => ⟨a, rfl, fun j p hp => ?_⟩⟩, by rw [hlen]; exact hl, hm, fun s hs => hws s (List.mem_of_mem_take hs)⟩
    have hj : j < len := by
      have := (List.getElem?_eq_some_iff.1 hp).1
      omega
    have hp' : ss[j]? = some p := by rw [List.getElem?_take_of_lt hj] at hp; exact hp
    have hc := hcell j (by omega)
    rw [List.getD_eq_getElem?_getD, hp'] at hc
    refine ⟨[.string p], rfl, rfl, fun i u hu => ?_⟩
    rcases i with _ | i
    · simp at hu
      subst hu
      rw [show j * Kd.string.sz + 0 = j by show j * 1 + 0 = j; omega]
      exact hc
    · simp at hu
theorem bytes_cs {v : Value} {x : DataW H × List MemPlace} (h : DataW.trod enc Try.prog w base spare held fuel 23 [v] = some x) : ∃ A l c, v = .slice A l.length c ∧ Bytes w A c l := by
  rcases open_ints Try.underlying23 Try.underlying5 (by kernel_rfl) h with ⟨hcs, _⟩ | ⟨a, len, cap, ss, hcs, _, hl, hm, hz, _, hcell, hws⟩
  · simp at hcs
    subst hcs
    exact ⟨none, [], 0, rfl, ⟨rfl, by simp, fun h => absurd h (Nat.lt_irrefl 0)⟩, Nat.le_refl _, by unfold maxLen; omega, fun s hs => by simp at hs⟩
  · simp at hcs
    subst hcs
    have hle : len ≤ ss.length := by rw [hz]; split <;> omega
    have hlen : (ss.take len).length = len := by simp; omega
    refine ⟨some a, ss.take len, cap, by rw [hlen], ⟨rfl, by rw [hlen]; simp only [maxLen] at hm; omega, fun _ => ⟨a, rfl, fun j p hp => ?_⟩⟩, by rw [hlen]; exact hl, hm, fun z hz => ?_⟩
    · have hj : j < len := by
        have := (List.getElem?_eq_some_iff.1 hp).1
        omega
      have hp' : ss[j]? = some p := by rw [List.getElem?_take_of_lt hj] at hp; exact hp
      have hc := hcell j (by omega)
      rw [List.getD_eq_getElem?_getD, hp'] at hc
      refine ⟨[.int .u8 p], rfl, rfl, fun i u hu => ?_⟩
      rcases i with _ | i
      · simp at hu
        subst hu
        rw [show j * (Kd.int .u8).sz + 0 = j by show j * 1 + 0 = j; omega]
        exact hc
      · simp at hu
    · have := hws z (List.mem_of_mem_take hz)
      have h2 := (u8_wf z).1 this
      exact h2
theorem open_bytes {b0 : Nat} {v : Value} {d : DataW H} {p : List MemPlace} (hv : Value.okWide Try.prog w .any b0 23 v) (h : DataW.Trod enc Try.prog w base spare held 23 v d p) : ∃ A l c, v = .slice A l.length c ∧ Bytes w A c l := by
  obtain ⟨a, len, cap, rfl⟩ := okWide_slice Try.underlying23 hv
  obtain ⟨fuel, hf⟩ := h
  exact bytes_cs hf
/-- Facts, as a row hands them. -/
def Facts (w : World) (A : Option Addr) (cap : Nat) (l : List Lib.S36) : Prop := Kd.C Lib.k36 w A l.length l ∧ l.length ≤ cap ∧ ∀ x ∈ l, I64 x.f2
theorem facts_cs {v : Value} {x : DataW H × List MemPlace} (h : DataW.trod enc Try.prog w base spare held fuel 22 [v] = some x) : ∃ A l c, v = .slice A l.length c ∧ Facts w A c l := by
  rcases open_slice_fields Try.underlying22 Try.underlying36 (by kernel_rfl) (by kernel_rfl) h with ⟨hcs, _⟩ | ⟨a, len, cap, m, D, Pl, hcs, _, hl, hm, hmm, _, hi⟩
  · simp at hcs
    subst hcs
    exact ⟨none, [], 0, rfl, ⟨rfl, by simp, fun h => absurd h (Nat.lt_irrefl 0)⟩, Nat.le_refl _, fun s hs => by simp at hs⟩
  · simp at hcs
    subst hcs
    have hlm : len ≤ m := by rw [hmm]; split <;> omega
    have each : ∀ i, i < len → ∃ (q : Lib.S36) (A0 : Option Addr) (c0 : Nat), w.cell? (a.add (i * 3 + 0)) = some (.slice A0 q.f0.length c0) ∧ w.cell? (a.add (i * 3 + 1)) = some (.int .i64 q.f1) ∧ w.cell? (a.add (i * 3 + 2)) = some (.int .i64 q.f2) ∧ Texts w A0 c0 q.f0 ∧ I64 q.f2 := by
      intro i hlt
      obtain ⟨ys, n, _, _, _, hf⟩ := hi i (by omega)
      obtain ⟨v0, y0, c0, _, t0⟩ := hf 0 _ rfl
      obtain ⟨v1, y1, c1, _, t1⟩ := hf 1 _ rfl
      obtain ⟨v2, y2, c2, _, t2⟩ := hf 2 _ rfl
      obtain ⟨A0, l0, cc, rfl, hl0⟩ := texts_cs t0
      obtain ⟨k1, e1, _, w1⟩ := DataW.trod_int Try.underlying2 t1
      obtain ⟨k2, e2, _, w2⟩ := DataW.trod_int Try.underlying2 t2
      simp at e1 e2
      subst e1; subst e2
      exact ⟨⟨l0, k1, k2⟩, A0, cc, c0, c1, c2, hl0, i64_wf w2⟩
    have hch : ∀ i : Nat, ∃ q : Lib.S36, i < len → ∃ (A0 : Option Addr) (c0 : Nat), w.cell? (a.add (i * 3 + 0)) = some (.slice A0 q.f0.length c0) ∧ w.cell? (a.add (i * 3 + 1)) = some (.int .i64 q.f1) ∧ w.cell? (a.add (i * 3 + 2)) = some (.int .i64 q.f2) ∧ Texts w A0 c0 q.f0 ∧ I64 q.f2 := by
      intro i
      by_cases hlt : i < len
      · obtain ⟨q, A0, c0, h⟩ := each i hlt
        exact ⟨q, fun _ => ⟨A0, c0, h⟩⟩
      · exact ⟨Lib.z36, fun h => absurd h hlt⟩
    obtain ⟨f, hf⟩ := Classical.axiomOfChoice hch
    have hlen : ((List.range len).map f).length = len := by simp
    refine ⟨some a, (List.range len).map f, cap, by rw [hlen], ⟨rfl, by rw [hlen]; simp only [maxLen] at hm; omega, fun _ => ⟨a, rfl, fun j p hp => ?_⟩⟩, by rw [hlen]; exact hl, fun q hq => ?_⟩
    · have hj : j < len := by
        have := (List.getElem?_eq_some_iff.1 hp).1
        omega
      rw [List.getElem?_map, List.getElem?_range hj] at hp
      have hp' : f j = p := by simpa using hp
      subst hp'
      obtain ⟨A0, c0, h0, h1, h2, ht, _⟩ := hf j hj
      refine ⟨[.slice A0 (f j).f0.length c0, .int .i64 (f j).f1, .int .i64 (f j).f2], rfl, Lib.k36_mk w (f j) ht.2.1 ht.1, fun i u hu => ?_⟩
      rw [show j * Lib.k36.sz + i = j * 3 + i from rfl]
      match i, hu with
      | 0, hu => simp at hu; subst hu; exact h0
      | 1, hu => simp at hu; subst hu; exact h1
      | 2, hu => simp at hu; subst hu; exact h2
      | n + 3, hu => simp at hu
    · obtain ⟨j, hj, rfl⟩ := List.mem_map.1 hq
      rw [List.mem_range] at hj
      obtain ⟨A0, c0, _, _, _, _, hw⟩ := hf j hj
      exact hw
theorem open_facts {b0 : Nat} {v : Value} {d : DataW H} {p : List MemPlace} (hv : Value.okWide Try.prog w .any b0 22 v) (h : DataW.Trod enc Try.prog w base spare held 22 v d p) : ∃ A l c, v = .slice A l.length c ∧ Facts w A c l := by
  obtain ⟨a, len, cap, rfl⟩ := okWide_slice Try.underlying22 hv
  obtain ⟨fuel, hf⟩ := h
  exact facts_cs hf
end
end Go.Proofs.Ytkpkhggjhpikdaa.Open
