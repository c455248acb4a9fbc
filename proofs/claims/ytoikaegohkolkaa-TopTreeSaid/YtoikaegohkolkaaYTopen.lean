/-
  Rules, and rows of entries, as the row hands them: opened to what their cells hold; condition: that they can be read.
-/
import Derived.Test.YtoikaegohkolkaaGR
import Derived.SliceStrings
import Derived.ChangeSlices
import Derived.Lib.SmallJoins
import Derived.ChangeSame
import Derived.OpenShut
import Derived.Deep.Slices
import Derived.Deep.Fields
namespace Go.Proofs.Ytoikaegohkolkaa.Open
set_option maxRecDepth 100000
open Go.ChangeShapes Go.WideShapes Go.Deep Go.RowKit Go.Proofs.YtoikaegohkolkaaW.PrintWords Go.Proofs.YtoikaegohkolkaaW.PrintLast Go.Proofs.YtoikaegohkolkaaW.PrintMore
set_option linter.unusedSimpArgs false
set_option linter.unusedVariables false
section
variable {H : Type} {enc : TypeId × Value → H} {w : World} {base : Nat} {spare : Nat → Bool} {held : Bool} {fuel : Nat}
/-- Bytes, as a row hands them. -/
def Bytes (w : World) (A : Option Addr) (cap : Nat) (l : List Int) : Prop := Kd.C (Kd.int .u8) w A l.length l ∧ l.length ≤ cap ∧ cap ≤ maxLen ∧ ∀ z ∈ l, 0 ≤ z ∧ z < 256
theorem u8_wf (z : Int) : (Lit.int .u8 z).wf = true ↔ 0 ≤ z ∧ z < 256 := by
  have h1 : IntKind.u8.min = 0 := by kernel_rfl
  have h2 : IntKind.u8.max = 255 := by kernel_rfl
  simp only [Lit.wf, h1, h2, Bool.and_eq_true, decide_eq_true_eq]
  omega
theorem i64_wf {z : Int} (h : (Lit.int .i64 z).wf = true) : -9223372036854775808 ≤ z ∧ z < 9223372036854775808 := by
  have h1 : IntKind.i64.min = -9223372036854775808 := by kernel_rfl
  have h2 : IntKind.i64.max = 9223372036854775807 := by kernel_rfl
  simp only [Lit.wf, h1, h2, Bool.and_eq_true, decide_eq_true_eq] at h
  omega
theorem u64_wf {z : Int} (h : (Lit.int .u64 z).wf = true) : 0 ≤ z ∧ z < 18446744073709551616 := by
  have h1 : IntKind.u64.min = 0 := by kernel_rfl
  have h2 : IntKind.u64.max = 18446744073709551615 := by kernel_rfl
  simp only [Lit.wf, h1, h2, Bool.and_eq_true, decide_eq_true_eq] at h
  omega
theorem bytes_cs {v : Value} {x : DataW H × List MemPlace} (h : DataW.trod enc Try.prog w base spare held fuel 49 [v] = some x) : ∃ A l c, v = .slice A l.length c ∧ Bytes w A c l := by
  rcases open_ints Try.underlying49 Try.underlying5 (by kernel_rfl) h with ⟨hcs, _⟩ | ⟨a, len, cap, ss, hcs, _, hl, hm, hz, _, hcell, hws⟩
  · simp at hcs
    subst hcs
    exact ⟨none, [], 0, rfl, ⟨rfl, by simp, fun h => absurd h (Nat.lt_irrefl 0)⟩, Nat.le_refl _, by unfold maxLen; omega, fun s hs => by simp at hs⟩
  · simp at hcs
    subst hcs
    have hle : len ≤ ss.length := by rw [hz]; split <;> omega
    have hlen : (ss.take len).length = len := by simp; omega
    refine ⟨some a, ss.take len, cap, by rw [hlen], ⟨rfl, by rw [hlen]; simp only [maxLen] at hm; omega, fun _ => ⟨a, rfl, fun j p hp => ?_⟩⟩, by rw [hlen]; exact hl, hm, fun z hz => ?_⟩
    · have hj : j < len := by
        have := (List.getElem?_eq_some_iff.1 hp).1
        omega
      have hp' : ss[j]? = some p := by rw [List.getElem?_take_of_lt hj] at hp; exact hp
      have hc := hcell j (by omega)
      rw [List.getD_eq_getElem?_getD, hp'] at hc
      refine ⟨[.int .u8 p], rfl, rfl, fun i u hu => ?_⟩
      rcases i with _ | i
      · simp at hu
        subst hu
        rw [show j * (Kd.int .u8).sz + 0 = j by show j * 1 + 0 = j; omega]
        exact hc
      · simp at hu
    · have := hws z (List.mem_of_mem_take hz)
      exact (u8_wf z).1 this
theorem open_bytes {b0 : Nat} {v : Value} {d : DataW H} {p : List MemPlace} (hv : Value.okWide Try.prog w .any b0 49 v) (h : DataW.Trod enc Try.prog w base spare held 49 v d p) : ∃ A l c, v = .slice A l.length c ∧ Bytes w A c l := by
  obtain ⟨a, len, cap, rfl⟩ := okWide_slice Try.underlying49 hv
  obtain ⟨fuel, hf⟩ := h
  exact bytes_cs hf
theorem one_field {P : Program} {fs : Array Field} {cs : List Value} {xs : List (DataW H × List MemPlace)} {n : Nat} (hf : ∀ (i : Nat) (f : Field), fs[i]? = some f → DataW.trod enc P w base spare held n f.type ((cs.drop f.offset).take (P.cellsOf f.type)) = xs[i]?) (hlen : xs.length = fs.size)
    (i : Nat) (f : Field) (hi : fs[i]? = some f) (t off k : Nat) (ht : f.type = t) (ho : f.offset = off) (hk : P.cellsOf t = k) : ∃ y, DataW.trod enc P w base spare held n t ((cs.drop off).take k) = some y := by
  have h := hf i f hi
  subst ht; subst ho; subst hk
  have hl := (Array.getElem?_eq_some_iff.1 hi).1
  rw [List.getElem?_eq_getElem (by omega)] at h
  exact ⟨_, h⟩
theorem wide_cs {cs : List Value} {x : DataW H × List MemPlace} (h : DataW.trod enc Try.prog w base spare held fuel 52 cs = some x) : ∃ hi lo : Int, cs = [.int .i64 hi, .int .u64 lo] ∧ (-9223372036854775808 ≤ hi ∧ hi < 9223372036854775808) ∧ 0 ≤ lo ∧ lo < 18446744073709551616 := by
  obtain ⟨xs, n, _, _, hl, hlen, hf⟩ := DataW.trod_struct Try.underlying52 h
  rw [show Try.prog.cellsOf 52 = 2 by kernel_rfl] at hl
  match cs, hl with
  | [v0, v1], _ =>
    obtain ⟨y0, h0⟩ := one_field hf hlen 0 _ rfl 2 0 1 rfl rfl (by kernel_rfl)
    obtain ⟨y1, h1⟩ := one_field hf hlen 1 _ rfl 50 1 1 rfl rfl (by kernel_rfl)
    obtain ⟨k0, e0, _, w0⟩ := DataW.trod_int Try.underlying2 h0
    obtain ⟨k1, e1, _, w1⟩ := DataW.trod_int Try.underlying50 h1
    simp at e0 e1
    subst e0; subst e1
    exact ⟨k0, k1, rfl, i64_wf w0, u64_wf w1⟩
theorem agg_cs {cs : List Value} {x : DataW H × List MemPlace} (h : DataW.trod enc Try.prog w base spare held fuel 54 cs = some x) :
    ∃ a : Lib.S54, cs = [.int .u64 a.f0, .bool a.f1, .int .i64 a.f2.f0, .int .u64 a.f2.f1, .int .i64 a.f3, .int .i64 a.f4] ∧ (Top.agOf a).ok ∧ (-9223372036854775808 ≤ a.f3 ∧ a.f3 < 9223372036854775808) ∧ (-9223372036854775808 ≤ a.f4 ∧ a.f4 < 9223372036854775808) := by
  obtain ⟨xs, n, _, _, hl, hlen, hf⟩ := DataW.trod_struct Try.underlying54 h
  rw [show Try.prog.cellsOf 54 = 6 by kernel_rfl] at hl
  match cs, hl with
  | [v0, v1, v2, v3, v4, v5], _ =>
    obtain ⟨y0, h0⟩ := one_field hf hlen 0 _ rfl 50 0 1 rfl rfl (by kernel_rfl)
    obtain ⟨y1, h1⟩ := one_field hf hlen 1 _ rfl 4 1 1 rfl rfl (by kernel_rfl)
    obtain ⟨y2, h2⟩ := one_field hf hlen 2 _ rfl 52 2 2 rfl rfl (by kernel_rfl)
    obtain ⟨y3, h3⟩ := one_field hf hlen 3 _ rfl 2 4 1 rfl rfl (by kernel_rfl)
    obtain ⟨y4, h4⟩ := one_field hf hlen 4 _ rfl 2 5 1 rfl rfl (by kernel_rfl)
    obtain ⟨k0, e0, _, w0⟩ := DataW.trod_int Try.underlying50 h0
    obtain ⟨k1, e1, _⟩ := DataW.trod_bool Try.underlying4 h1
    obtain ⟨k2, k2', e2, b1, b2⟩ := wide_cs h2
    obtain ⟨k3, e3, _, w3⟩ := DataW.trod_int Try.underlying2 h3
    obtain ⟨k4, e4, _, w4⟩ := DataW.trod_int Try.underlying2 h4
    simp at e0 e1 e2 e3 e4
    obtain ⟨e2, e2'⟩ := e2
    subst e0; subst e1; subst e2; subst e2'; subst e3; subst e4
    exact ⟨⟨k0, k1, ⟨k2, k2'⟩, k3, k4⟩, rfl, ⟨u64_wf w0, b1, b2⟩, i64_wf w3, i64_wf w4⟩
/-- Entries, as a row hands them. -/
def EnOk (x : Lib.S56) : Prop := (∀ z ∈ x.f0, 0 ≤ z ∧ z < 256) ∧ (Top.agOf x.f1).ok ∧ (-9223372036854775808 ≤ x.f1.f3 ∧ x.f1.f3 < 9223372036854775808) ∧ (-9223372036854775808 ≤ x.f1.f4 ∧ x.f1.f4 < 9223372036854775808)
def Entries (w : World) (A : Option Addr) (cap : Nat) (l : List Lib.S56) : Prop := Kd.C Lib.k56 w A l.length l ∧ l.length ≤ cap ∧ cap ≤ maxLen ∧ ∀ x ∈ l, EnOk x
theorem entry_cs {cs : List Value} {x : DataW H × List MemPlace} (h : DataW.trod enc Try.prog w base spare held fuel 56 cs = some x) :
    ∃ (q : Lib.S56) (A0 : Option Addr) (c0 : Nat), cs = [.slice A0 q.f0.length c0, .int .u64 q.f1.f0, .bool q.f1.f1, .int .i64 q.f1.f2.f0, .int .u64 q.f1.f2.f1, .int .i64 q.f1.f3, .int .i64 q.f1.f4] ∧ Bytes w A0 c0 q.f0 ∧ EnOk q := by
  obtain ⟨xs, n, _, _, hl, hlen, hf⟩ := DataW.trod_struct Try.underlying56 h
  rw [show Try.prog.cellsOf 56 = 7 by kernel_rfl] at hl
  match cs, hl with
  | [v0, v1, v2, v3, v4, v5, v6], _ =>
    obtain ⟨y0, h0⟩ := one_field hf hlen 0 _ rfl 49 0 1 rfl rfl (by kernel_rfl)
    obtain ⟨y1, h1⟩ := one_field hf hlen 1 _ rfl 54 1 6 rfl rfl (by kernel_rfl)
    obtain ⟨A, k, c, rfl, hb⟩ := bytes_cs h0
    obtain ⟨a, ea, b1, b2, b3⟩ := agg_cs h1
    simp at ea
    obtain ⟨e1, e2, e3, e4, e5, e6⟩ := ea
    subst e1; subst e2; subst e3; subst e4; subst e5; subst e6
    exact ⟨⟨k, a⟩, A, c, rfl, hb, hb.2.2.2, b1, b2, b3⟩
theorem entries_cs {v : Value} {x : DataW H × List MemPlace} (h : DataW.trod enc Try.prog w base spare held fuel 31 [v] = some x) : ∃ A l c, v = .slice A l.length c ∧ Entries w A c l := by
  rcases open_slice Try.underlying31 h with ⟨hcs, _⟩ | ⟨a, len, cap, m, n, D, Pl, hcs, _, hl, hm, hmm, _, hi⟩
  · simp at hcs
    subst hcs
    exact ⟨none, [], 0, rfl, ⟨rfl, by simp, fun h => absurd h (Nat.lt_irrefl 0)⟩, Nat.le_refl _, by unfold maxLen; omega, fun s hs => by simp at hs⟩
  · simp at hcs
    subst hcs
    rw [show Try.prog.cellsOf 56 = 7 by kernel_rfl] at hi
    have hlm : len ≤ m := by rw [hmm]; split <;> omega
    have hch : ∀ i : Nat, ∃ q : Lib.S56, i < len → ∃ (A0 : Option Addr) (c0 : Nat), (∀ j, j < 7 → w.cell? (a.add (i * 7 + j)) = ([.slice A0 q.f0.length c0, .int .u64 q.f1.f0, .bool q.f1.f1, .int .i64 q.f1.f2.f0, .int .u64 q.f1.f2.f1, .int .i64 q.f1.f3, .int .i64 q.f1.f4] : List Value)[j]?) ∧ Bytes w A0 c0 q.f0 ∧ EnOk q := by
      intro i
      by_cases hlt : i < len
      · obtain ⟨cs', hc, ht⟩ := hi i (by omega)
        obtain ⟨q, A0, c0, rfl, hb, hq⟩ := entry_cs ht
        obtain ⟨_, _, hat⟩ := World.cells?_some hc
        exact ⟨q, fun _ => ⟨A0, c0, fun j hj => by rw [← Go.Deep.add_add]; exact hat j hj, hb, hq⟩⟩
      · exact ⟨Lib.z56, fun h => absurd h hlt⟩
    obtain ⟨f, hf⟩ := Classical.axiomOfChoice hch
    have hlen : ((List.range len).map f).length = len := by simp
    refine ⟨some a, (List.range len).map f, cap, by rw [hlen], ⟨rfl, by rw [hlen]; simp only [maxLen] at hm; omega, fun _ => ⟨a, rfl, fun j p hp => ?_⟩⟩, by rw [hlen]; exact hl, hm, fun q hq => ?_⟩
    · have hj : j < len := by
        have := (List.getElem?_eq_some_iff.1 hp).1
        omega
      rw [List.getElem?_map, List.getElem?_range hj] at hp
      have hp' : f j = p := by simpa using hp
      subst hp'
      obtain ⟨A0, c0, h0, hb, _⟩ := hf j hj
      refine ⟨_, rfl, Lib.k56_mk w (f j) hb.2.1 hb.1, fun i u hu => ?_⟩
      rw [show j * Lib.k56.sz + i = j * 7 + i from rfl]
      have hi7 := (List.getElem?_eq_some_iff.1 hu).1
      rw [h0 i (by simpa using hi7)]
      exact hu
    · obtain ⟨j, hj, rfl⟩ := List.mem_map.1 hq
      rw [List.mem_range] at hj
      obtain ⟨A0, c0, _, _, hq⟩ := hf j hj
      exact hq
theorem addr_none {w : World} {a : Addr} {u : Value} (h : w.cell? a = some u) : a = ⟨a.block, a.off, none⟩ := by
  obtain ⟨b, o, s⟩ := a
  cases s with
  | none => rfl
  | some s =>
    unfold World.cell? at h
    cases hb : w.heap[b]? with
    | none => simp [hb] at h
    | some ob => cases ob <;> simp [hb] at h
theorem add_none (b o j : Nat) : (⟨b, o, none⟩ : Addr).add j = ⟨b, o + j, none⟩ := by
  unfold Addr.add
  by_cases h : j = 0
  · subst h
    rfl
  · rw [if_neg h]
theorem en_of {w : World} {A : Option Addr} {c : Nat} {l : List Lib.S56} (h : Entries w A c l) : ∃ r : Top.Re, r.v = .slice A l.length c ∧ Top.InR w r := by
  obtain ⟨hA, hc, hm, hok⟩ := h
  have hll : (l.length : Int) ≤ 9223372036854775807 := by have := hA.2.1; omega
  obtain ⟨q, hq, hqs⟩ := Top.great_c (l := l) hll
  have hcap : c ≤ 9223372036854775807 := by simp only [maxLen] at hm; omega
  have hch : ∀ j : Nat, ∃ p : Option Addr × Nat, ∀ hj : j < l.length, ∃ ad, A = some ad ∧ w.cell? (ad.add (j * 7)) = some (.slice p.1 l[j].f0.length p.2) ∧ w.cell? ⟨(ad.add (j * 7)).block, (ad.add (j * 7)).off + 1, none⟩ = some (.int .u64 (Top.agOf l[j].f1).c) ∧
      w.cell? ⟨(ad.add (j * 7)).block, (ad.add (j * 7)).off + 2, none⟩ = some (.bool (Top.agOf l[j].f1).o) ∧ w.cell? ⟨(ad.add (j * 7)).block, (ad.add (j * 7)).off + 3, none⟩ = some (.int .i64 (Top.agOf l[j].f1).hi) ∧
      w.cell? ⟨(ad.add (j * 7)).block, (ad.add (j * 7)).off + 4, none⟩ = some (.int .u64 (Top.agOf l[j].f1).lo) ∧ w.cell? ⟨(ad.add (j * 7)).block, (ad.add (j * 7)).off + 5, none⟩ = some (.int .i64 (Top.agOf l[j].f1).mn) ∧
      w.cell? ⟨(ad.add (j * 7)).block, (ad.add (j * 7)).off + 6, none⟩ = some (.int .i64 (Top.agOf l[j].f1).mx) ∧ l[j].f0.length ≤ p.2 ∧ Top.RdB w p.1 l[j].f0 := fun j => by
    by_cases hj : j < l.length
    · obtain ⟨ad, A0, c0, h⟩ := Top.entry_at hA (Below.refl _ _) hj
      exact ⟨(A0, c0), fun _ => ⟨ad, h⟩⟩
    · exact ⟨(none, 0), fun h => absurd h hj⟩
  obtain ⟨f, hf⟩ := Classical.axiomOfChoice hch
  obtain ⟨es, hes⟩ : ∃ es : List Top.Ent, es = (List.range l.length).map fun j => ⟨(f j).1, (f j).2, (l.getD j Lib.z56).f0, Top.agOf (l.getD j Lib.z56).f1⟩ := ⟨_, rfl⟩
  have hel : es.length = l.length := by rw [hes]; simp
  have hej : ∀ j (hj : j < l.length), es[j]'(by omega) = ⟨(f j).1, (f j).2, l[j].f0, Top.agOf l[j].f1⟩ := fun j hj => by
    subst hes
    simp [List.getD_eq_getElem?_getD, List.getElem?_eq_getElem hj]
  have hmem : ∀ x ∈ es, ∃ j, ∃ hj : j < l.length, x = ⟨(f j).1, (f j).2, l[j].f0, Top.agOf l[j].f1⟩ := fun x hx => by
    obtain ⟨j, hj, rfl⟩ := List.mem_iff_getElem.1 hx
    exact ⟨j, by omega, hej j (by omega)⟩
  have hrow : ∃ b o, (es ≠ [] → A = some ⟨b, o, none⟩) ∧ Top.EnRow w b o es := by
    by_cases h0 : l.length = 0
    · have : es = [] := List.length_eq_zero_iff.1 (by omega)
      rw [this]
      exact ⟨0, 0, fun h => absurd rfl h, ⟨fun j hj => by simp at hj, fun x hx => (List.not_mem_nil hx).elim⟩⟩
    · obtain ⟨ad, rfl, x0, _⟩ := hf 0 (by omega)
      have had : ad = ⟨ad.block, ad.off, none⟩ := by
        have : ad.add (0 * 7) = ad := rfl
        rw [this] at x0
        exact addr_none x0
      obtain ⟨b, o, ss⟩ := ad
      simp only at had
      rw [had] at hf ⊢
      refine ⟨b, o, fun _ => rfl, ⟨fun j hj m u hu => ?_, fun x hx => ?_⟩⟩
      · have hj' : j < l.length := by omega
        obtain ⟨ad, he, y0, y1, y2, y3, y4, y5, y6, _⟩ := hf j hj'
        cases he
        rw [add_none] at y0 y1 y2 y3 y4 y5 y6
        rw [hej j hj'] at hu
        have hm7 : m < 7 := by have := (List.getElem?_eq_some_iff.1 hu).1; simpa [Top.Ent.cells] using this
        match m, hm7, hu with
        | 0, _, hu => cases hu; exact y0
        | 1, _, hu => cases hu; exact y1
        | 2, _, hu => cases hu; exact y2
        | 3, _, hu => cases hu; exact y3
        | 4, _, hu => cases hu; exact y4
        | 5, _, hu => cases hu; exact y5
        | 6, _, hu => cases hu; exact y6
      · obtain ⟨j, hj, rfl⟩ := hmem x hx
        obtain ⟨ad, _, _, _, _, _, _, _, _, h8, h9⟩ := hf j hj
        exact ⟨h9, h8⟩
  obtain ⟨b, o, hat, hen⟩ := hrow
  refine ⟨⟨A, b, o, c, es⟩, by unfold Top.Re.v; rw [hel], ⟨⟨hat, by show es.length ≤ c; omega, hcap, .inl hen⟩, fun x hx => ?_, q, fun W hW => ?_, fun hqf => ?_⟩⟩
  · obtain ⟨j, hj, rfl⟩ := hmem x hx
    have := hok _ (List.getElem_mem hj)
    exact ⟨this.1, this.2.1, this.2.2.1, this.2.2.2⟩
  · unfold Top.Re.v
    simp only
    rw [hel]
    exact hq A c W (Kd.C_below hA hW) hc
  · obtain ⟨h1, h2⟩ := hqs hqf
    refine ⟨by show es.length ≤ 60; omega, fun x hx => ?_⟩
    obtain ⟨j, hj, rfl⟩ := hmem x hx
    exact h2 j hj
theorem open_rows {b0 : Nat} {v : Value} {d : DataW H} {p : List MemPlace} (hv : Value.okWide Try.prog w .any b0 25 v) (h : DataW.Trod enc Try.prog w base spare held 25 v d p) :
    ∃ (RR : Option Addr) (nb no nc : Nat) (ins : List Top.Re), v = .slice RR ins.length nc ∧ (ins ≠ [] → RR = some ⟨nb, no, none⟩) ∧ (∀ j (hj : j < ins.length), w.cell? ⟨nb, no + j, none⟩ = some ins[j].v) ∧ (∀ r ∈ ins, Top.InR w r) ∧ ins.length ≤ 9223372036854775807 := by
  obtain ⟨a, len, cap, rfl⟩ := okWide_slice Try.underlying25 hv
  obtain ⟨fuel, hf⟩ := h
  have hf : DataW.trod enc Try.prog w base spare held fuel 25 [.slice a len cap] = some (d, p) := hf
  rcases open_slice Try.underlying25 hf with ⟨hcs, _⟩ | ⟨a, len, cap, m, n, D, Pl, hcs, _, hl, hm, hmm, _, hi⟩
  · simp at hcs
    obtain ⟨rfl, rfl, rfl⟩ := hcs
    exact ⟨none, 0, 0, 0, [], rfl, fun h => absurd rfl h, fun j hj => by simp at hj, fun r hr => (List.not_mem_nil hr).elim, by simp⟩
  · simp at hcs
    obtain ⟨rfl, rfl, rfl⟩ := hcs
    rw [show Try.prog.cellsOf 31 = 1 by kernel_rfl] at hi
    have hlm : len ≤ m := by rw [hmm]; split <;> omega
    have hch : ∀ i : Nat, ∃ r : Top.Re, i < len → w.cell? (a.add i) = some r.v ∧ Top.InR w r := fun i => by
      by_cases hlt : i < len
      · obtain ⟨cs', hc, ht⟩ := hi i (by omega)
        obtain ⟨_, hsz, hat⟩ := World.cells?_some hc
        match cs', hsz, hat, ht with
        | [u], _, hat, ht =>
          obtain ⟨A, l, c, rfl, hE⟩ := entries_cs ht
          obtain ⟨r, hr, hin⟩ := en_of hE
          refine ⟨r, fun _ => ⟨?_, hin⟩⟩
          have := hat 0 (by omega)
          rw [Go.Deep.add_add, Nat.mul_one, Nat.add_zero] at this
          rw [this, hr]
          rfl
        | [], hsz, _, _ => simp at hsz
        | _ :: _ :: _, hsz, _, _ => simp at hsz
      · exact ⟨Top.nilRe, fun h => absurd h hlt⟩
    obtain ⟨f, hf2⟩ := Classical.axiomOfChoice hch
    have hlen : ((List.range len).map f).length = len := by simp
    have hmx : len ≤ 9223372036854775807 := by simp only [maxLen] at hm; omega
    by_cases h0 : len = 0
    · subst h0
      exact ⟨some a, 0, 0, cap, [], rfl, fun h => absurd rfl h, fun j hj => by simp at hj, fun r hr => (List.not_mem_nil hr).elim, by simp⟩
    · have ha : a = ⟨a.block, a.off, none⟩ := addr_none ((hf2 0 (by omega)).1)
      obtain ⟨b, o, ss⟩ := a
      simp only at ha
      rw [ha] at hf2 ⊢
      refine ⟨some ⟨b, o, none⟩, b, o, cap, (List.range len).map f, by rw [hlen], fun _ => rfl, fun j hj => ?_, fun r hr => ?_, by rw [hlen]; exact hmx⟩
      · have := (hf2 j (by simpa using hj)).1
        rw [add_none] at this
        rw [this]
        simp
      · obtain ⟨j, hj, rfl⟩ := List.mem_map.1 hr
        exact (hf2 j (List.mem_range.1 hj)).2
theorem gran_cs {cs : List Value} {x : DataW H × List MemPlace} (h : DataW.trod enc Try.prog w base spare held fuel 79 cs = some x) : ∃ q : Int × Int, cs = [.int .i64 q.1, .int .i64 q.2] := by
  obtain ⟨xs, n, _, _, hl, hlen, hf⟩ := DataW.trod_struct Try.underlying79 h
  rw [show Try.prog.cellsOf 79 = 2 by kernel_rfl] at hl
  match cs, hl with
  | [v0, v1], _ =>
    obtain ⟨y0, h0⟩ := one_field hf hlen 0 _ rfl 2 0 1 rfl rfl (by kernel_rfl)
    obtain ⟨y1, h1⟩ := one_field hf hlen 1 _ rfl 2 1 1 rfl rfl (by kernel_rfl)
    obtain ⟨k0, e0, _, w0⟩ := DataW.trod_int Try.underlying2 h0
    obtain ⟨k1, e1, _, w1⟩ := DataW.trod_int Try.underlying2 h1
    simp at e0 e1
    subst e0; subst e1
    exact ⟨(k0, k1), rfl⟩
theorem grans_cs {v : Value} {x : DataW H × List MemPlace} (h : DataW.trod enc Try.prog w base spare held fuel 22 [v] = some x) :
    ∃ (R : Option Addr) (rb ro c : Nat) (gs : Top.Gr), v = .slice R gs.length c ∧ (gs ≠ [] → R = some ⟨rb, ro, none⟩) ∧ Top.GRow w rb ro gs ∧ (gs.length : Int) ≤ 9223372036854775807 := by
  rcases open_slice Try.underlying22 h with ⟨hcs, _⟩ | ⟨a, len, cap, m, n, D, Pl, hcs, _, hl, hm, hmm, _, hi⟩
  · simp at hcs
    subst hcs
    exact ⟨none, 0, 0, 0, [], rfl, fun h => absurd rfl h, fun j hj => by simp at hj, by simp⟩
  · simp at hcs
    subst hcs
    rw [show Try.prog.cellsOf 79 = 2 by kernel_rfl] at hi
    have hlm : len ≤ m := by rw [hmm]; split <;> omega
    have hch : ∀ i : Nat, ∃ q : Int × Int, i < len → w.cell? (a.add (i * 2)) = some (.int .i64 q.1) ∧ w.cell? (a.add (i * 2 + 1)) = some (.int .i64 q.2) := fun i => by
      by_cases hlt : i < len
      · obtain ⟨cs', hc, ht⟩ := hi i (by omega)
        obtain ⟨_, _, hat⟩ := World.cells?_some hc
        obtain ⟨q, rfl⟩ := gran_cs ht
        have h0 := hat 0 (by omega)
        have h1 := hat 1 (by omega)
        rw [Go.Deep.add_add] at h0 h1
        exact ⟨q, fun _ => ⟨h0, h1⟩⟩
      · exact ⟨(0, 0), fun h => absurd h hlt⟩
    obtain ⟨f, hf2⟩ := Classical.axiomOfChoice hch
    have hlen : ((List.range len).map f).length = len := by simp
    have hmx : (len : Int) ≤ 9223372036854775807 := by simp only [maxLen] at hm; omega
    by_cases h0 : len = 0
    · subst h0
      exact ⟨some a, 0, 0, cap, [], rfl, fun h => absurd rfl h, fun j hj => by simp at hj, by simp⟩
    · have ha : a = ⟨a.block, a.off, none⟩ := addr_none ((hf2 0 (by omega)).1)
      obtain ⟨b, o, ss⟩ := a
      simp only at ha
      rw [ha] at hf2 ⊢
      refine ⟨some ⟨b, o, none⟩, b, o, cap, (List.range len).map f, by rw [hlen], fun _ => rfl, fun j hj => ?_, by rw [hlen]; exact hmx⟩
      obtain ⟨h1, h2⟩ := hf2 j (by simpa using hj)
      rw [add_none] at h1 h2
      rw [List.getElem_map, List.getElem_range]
      exact ⟨h1, by rw [Nat.add_assoc]; exact h2⟩
theorem open_rules {b0 : Nat} {v : Value} {d : DataW H} {p : List MemPlace} (hv : Value.okWide Try.prog w .any b0 24 v) (h : DataW.Trod enc Try.prog w base spare held 24 v d p) :
    ∃ (R : Option Addr) (rb ro c : Nat) (gs : Top.Gr) (keep : Int), v = Top.rulV R gs.length c keep ∧ (gs ≠ [] → R = some ⟨rb, ro, none⟩) ∧ Top.GRow w rb ro gs ∧ (gs.length : Int) ≤ 9223372036854775807 := by
  obtain ⟨cs, rfl, hsz⟩ := okWide_struct Try.underlying24 hv
  obtain ⟨fuel, hf⟩ := h
  obtain ⟨xs, n, _, _, hl, hlen, hff⟩ := DataW.trod_struct Try.underlying24 hf
  rw [show Try.prog.cellsOf 24 = 2 by kernel_rfl] at hl
  obtain ⟨l⟩ := cs
  have hl2 : l.length = 2 := hl
  match l, hl2 with
  | [v0, v1], _ =>
    obtain ⟨y0, h0⟩ := one_field hff hlen 0 _ rfl 22 0 1 rfl rfl (by kernel_rfl)
    obtain ⟨y1, h1⟩ := one_field hff hlen 1 _ rfl 2 1 1 rfl rfl (by kernel_rfl)
    obtain ⟨k1, e1, _, w1⟩ := DataW.trod_int Try.underlying2 h1
    obtain rfl : v1 = .int .i64 k1 := by
      have h9 : [v1] = [.int .i64 k1] := e1
      injection h9
    have h0 : DataW.trod enc Try.prog w base spare held n 22 [v0] = some y0 := h0
    obtain ⟨R, rb, ro, c, gs, rfl, h2, h3, h4⟩ := grans_cs h0
    exact ⟨R, rb, ro, c, gs, k1, rfl, h2, h3, h4⟩
end
end Go.Proofs.Ytoikaegohkolkaa.Open
