/-
  Rows of records, and ints, as the row hands them: opened to what their cells hold; condition: that they can be read.
-/
import Derived.Test.YtnmiipcoojijiaaDoorZLaw
import Derived.SliceStrings
import Derived.ChangeSlices
import Derived.Lib.SmallJoins
import Derived.ChangeSame
import Derived.OpenShut
import Derived.Deep.Slices
import Derived.Deep.Fields
namespace Go.Proofs.YtnmiipcoojijiaaDoor.Open
set_option maxRecDepth 100000
open Go.ChangeShapes Go.WideShapes Go.Deep Go.RowKit Go.Proofs.YtnmiipcoojijiaaDoorW.PrintWords Go.Proofs.YtnmiipcoojijiaaDoorW.PrintLast Go.Proofs.YtnmiipcoojijiaaDoorW.PrintMore
set_option linter.unusedSimpArgs false
set_option linter.unusedVariables false
section
variable {H : Type} {enc : TypeId × Value → H} {w : World} {base : Nat} {spare : Nat → Bool} {held : Bool} {fuel : Nat}
/-- Texts, as a row hands them. -/
def Texts (w : World) (A : Option Addr) (cap : Nat) (l : List ByteArray) : Prop := Kd.C Kd.string w A l.length l ∧ l.length ≤ cap ∧ cap ≤ maxLen ∧ ∀ s ∈ l, s.size ≤ maxLen
theorem i64_wf {z : Int} (h : (Lit.int .i64 z).wf = true) : -9223372036854775808 ≤ z ∧ z < 9223372036854775808 := by
  have h1 : IntKind.i64.min = -9223372036854775808 := by kernel_rfl
  have h2 : IntKind.i64.max = 9223372036854775807 := by kernel_rfl
  simp only [Lit.wf, h1, h2, Bool.and_eq_true, decide_eq_true_eq] at h
  omega
theorem texts_cs {v : Value} {x : DataW H × List MemPlace} (h : DataW.trod enc Tryd.prog w base spare held fuel 51 [v] = some x) : ∃ A l c, v = .slice A l.length c ∧ Texts w A c l := by
  rcases open_strings Tryd.underlying51 Tryd.underlying9 (by kernel_rfl) h with ⟨hcs, _⟩ | ⟨a, len, cap, ss, hcs, _, hl, hm, hz, _, hcell, hws⟩
  · simp at hcs
    subst hcs
    exact ⟨none, [], 0, rfl, ⟨rfl, by simp, fun h => absurd h (Nat.lt_irrefl 0)⟩, Nat.le_refl _, by unfold maxLen; omega, fun s hs => by simp at hs⟩
  · simp at hcs
    subst hcs
    have hle : len ≤ ss.length := by rw [hz]; split <;> omega
    have hlen : (ss.take len).length = len := by simp; omega
    refine ⟨some a, ss.take len, cap, by rw [hlen], ⟨rfl, by rw [hlen]; simp only [maxLen] at hm; omega, fun _ => ⟨a, rfl, fun j p hp => ?_⟩⟩, by rw [hlen]; exact hl, hm, fun s hs => hws s (List.mem_of_mem_take hs)⟩
    have hj : j < len := by
      have := (List.getElem?_eq_some_iff.1 hp).1
      omega
    have hp' : ss[j]? = some p := by rw [List.getElem?_take_of_lt hj] at hp; exact hp
    have hc := hcell j (by omega)
    rw [List.getD_eq_getElem?_getD, hp'] at hc
    refine ⟨[.string p], rfl, rfl, fun i u hu => ?_⟩
    rcases i with _ | i
    · simp at hu
      subst hu
      rw [show j * Kd.string.sz + 0 = j by show j * 1 + 0 = j; omega]
      exact hc
    · simp at hu
theorem one_field {P : Program} {fs : Array Field} {cs : List Value} {xs : List (DataW H × List MemPlace)} {n : Nat} (hf : ∀ (i : Nat) (f : Field), fs[i]? = some f → DataW.trod enc P w base spare held n f.type ((cs.drop f.offset).take (P.cellsOf f.type)) = xs[i]?) (hlen : xs.length = fs.size)
    (i : Nat) (f : Field) (hi : fs[i]? = some f) (t off k : Nat) (ht : f.type = t) (ho : f.offset = off) (hk : P.cellsOf t = k) : ∃ y, DataW.trod enc P w base spare held n t ((cs.drop off).take k) = some y := by
  have h := hf i f hi
  subst ht; subst ho; subst hk
  have hl := (Array.getElem?_eq_some_iff.1 hi).1
  rw [List.getElem?_eq_getElem (by omega)] at h
  exact ⟨_, h⟩
theorem addr_none {w : World} {a : Addr} {u : Value} (h : w.cell? a = some u) : a = ⟨a.block, a.off, none⟩ := by
  obtain ⟨b, o, s⟩ := a
  cases s with
  | none => rfl
  | some s =>
    unfold World.cell? at h
    cases hb : w.heap[b]? with
    | none => simp [hb] at h
    | some ob => cases ob <;> simp [hb] at h
theorem add_none (b o j : Nat) : (⟨b, o, none⟩ : Addr).add j = ⟨b, o + j, none⟩ := by
  unfold Addr.add
  by_cases h : j = 0
  · subst h
    rfl
  · rw [if_neg h]
/-- A row whose elements are of one kind each. -/
theorem open_row {t e : TypeId} {k : Nat} {α : Type} (z : α) (cells : α → List Value) (Q : α → Prop) (hk : Tryd.prog.cellsOf e = k) (hpos : 0 < k) (hcl : ∀ q, (cells q).length = k) (ht : Tryd.prog.underlying t = some (.slice e))
    (each : ∀ (n : Nat) (cs : List Value) (x : DataW H × List MemPlace), DataW.trod enc Tryd.prog w base spare held n e cs = some x → ∃ q, cs = cells q ∧ Q q) {v : Value} {x : DataW H × List MemPlace} (h : DataW.trod enc Tryd.prog w base spare held fuel t [v] = some x) :
    ∃ (A : Option Addr) (b o c : Nat) (l : List α), v = .slice A l.length c ∧ (l ≠ [] → A = some ⟨b, o, none⟩) ∧ (∀ j (hj : j < l.length) m u, (cells l[j])[m]? = some u → w.cell? ⟨b, o + j * k + m, none⟩ = some u) ∧ (∀ q ∈ l, Q q) ∧ l.length ≤ c ∧ c ≤ maxLen := by
  rcases open_slice ht h with ⟨hcs, _⟩ | ⟨a, len, cap, m, n, D, Pl, hcs, _, hl, hm, hmm, _, hi⟩
  · simp at hcs
    subst hcs
    exact ⟨none, 0, 0, 0, [], rfl, fun h => absurd rfl h, fun j hj => by simp at hj, fun s hs => (List.not_mem_nil hs).elim, Nat.le_refl _, by unfold maxLen; omega⟩
  · simp at hcs
    subst hcs
    rw [hk] at hi
    have hlm : len ≤ m := by rw [hmm]; split <;> omega
    have hch : ∀ i : Nat, ∃ q : α, i < len → (∀ j, j < k → w.cell? (a.add (i * k + j)) = (cells q)[j]?) ∧ Q q := by
      intro i
      by_cases hlt : i < len
      · obtain ⟨cs', hc, ht'⟩ := hi i (by omega)
        obtain ⟨q, rfl, hq⟩ := each _ _ _ ht'
        obtain ⟨_, _, hat⟩ := World.cells?_some hc
        exact ⟨q, fun _ => ⟨fun j hj => by rw [← Go.Deep.add_add]; exact hat j hj, hq⟩⟩
      · exact ⟨z, fun h => absurd h hlt⟩
    obtain ⟨f, hf⟩ := Classical.axiomOfChoice hch
    have hlen : ((List.range len).map f).length = len := by simp
    by_cases h0 : len = 0
    · subst h0
      exact ⟨some a, 0, 0, cap, [], rfl, fun h => absurd rfl h, fun j hj => by simp at hj, fun r hr => (List.not_mem_nil hr).elim, Nat.zero_le _, hm⟩
    · have ha : a = ⟨a.block, a.off, none⟩ := by
        have h1 := (hf 0 (by omega)).1 0 hpos
        rw [List.getElem?_eq_getElem (by rw [hcl]; exact hpos)] at h1
        have h2 : a.add (0 * k + 0) = a := by simp [Addr.add]
        rw [h2] at h1
        exact addr_none h1
      obtain ⟨b, o, ss⟩ := a
      simp only at ha
      rw [ha] at hf ⊢
      refine ⟨some ⟨b, o, none⟩, b, o, cap, (List.range len).map f, by rw [hlen], fun _ => rfl, fun j hj m u hu => ?_, fun r hr => ?_, by rw [hlen]; exact hl, hm⟩
      · have hj' : j < len := by simpa using hj
        have hg : ((List.range len).map f)[j] = f j := by simp
        rw [hg] at hu
        have hm' : m < k := by
          have := (List.getElem?_eq_some_iff.1 hu).1
          rw [hcl] at this
          exact this
        have h1 := (hf j hj').1 m hm'
        rw [add_none, hu] at h1
        rw [Nat.add_assoc]
        exact h1
      · obtain ⟨j, hj, rfl⟩ := List.mem_map.1 hr
        exact (hf j (List.mem_range.1 hj)).2
theorem fact_cs {cs : List Value} {x : DataW H × List MemPlace} (h : DataW.trod enc Tryd.prog w base spare held fuel 59 cs = some x) : ∃ q : Top.Fc, cs = q.cells ∧ q.rd w := by
  obtain ⟨xs, n, _, _, hl, hlen, hf⟩ := DataW.trod_struct Tryd.underlying59 h
  rw [show Tryd.prog.cellsOf 59 = 3 by kernel_rfl] at hl
  match cs, hl with
  | [v0, v1, v2], _ =>
    obtain ⟨y0, h0⟩ := one_field hf hlen 0 _ rfl 51 0 1 rfl rfl (by kernel_rfl)
    obtain ⟨y1, h1⟩ := one_field hf hlen 1 _ rfl 2 1 1 rfl rfl (by kernel_rfl)
    obtain ⟨y2, h2⟩ := one_field hf hlen 2 _ rfl 2 2 1 rfl rfl (by kernel_rfl)
    obtain ⟨A, l, c, rfl, hb⟩ := texts_cs h0
    obtain ⟨k1, e1, _, w1⟩ := DataW.trod_int Tryd.underlying2 h1
    obtain ⟨k2, e2, _, w2⟩ := DataW.trod_int Tryd.underlying2 h2
    simp at e1 e2
    subst e1; subst e2
    exact ⟨⟨A, c, ⟨l, k1, k2⟩⟩, rfl, ⟨hb.1, hb.2.1, i64_wf w2⟩⟩
theorem rec_cs {cs : List Value} {x : DataW H × List MemPlace} (h : DataW.trod enc Tryd.prog w base spare held fuel 37 cs = some x) : ∃ r : Top.Rc, cs = r.cells ∧ r.rd w ∧ (-9223372036854775808 ≤ r.m ∧ r.m < 9223372036854775808) := by
  obtain ⟨xs, n, _, _, hl, hlen, hf⟩ := DataW.trod_struct Tryd.underlying37 h
  rw [show Tryd.prog.cellsOf 37 = 2 by kernel_rfl] at hl
  match cs, hl with
  | [v0, v1], _ =>
    obtain ⟨y0, h0⟩ := one_field hf hlen 0 _ rfl 35 0 1 rfl rfl (by kernel_rfl)
    obtain ⟨y1, h1⟩ := one_field hf hlen 1 _ rfl 2 1 1 rfl rfl (by kernel_rfl)
    obtain ⟨k1, e1, _, w1⟩ := DataW.trod_int Tryd.underlying2 h1
    simp at e1
    subst e1
    obtain ⟨A, b, o, c, l, rfl, ha, hc, hq, hlc, hcm⟩ := open_row (⟨none, 0, ⟨[], 0, 0⟩⟩ : Top.Fc) Top.Fc.cells (fun q => q.rd w) (show Tryd.prog.cellsOf 59 = 3 by kernel_rfl) (by omega) (fun _ => rfl) Tryd.underlying35 (fun _ _ _ h => fact_cs h) h0
    exact ⟨⟨A, b, o, c, l, k1⟩, rfl, ⟨ha, ⟨fun j hj m u hu => hc j hj m u hu, hq⟩, hlc, by simp only [maxLen] at hcm; show (l.length : Int) ≤ _; omega⟩, i64_wf w1⟩
theorem row_cs {cs : List Value} {x : DataW H × List MemPlace} (h : DataW.trod enc Tryd.prog w base spare held fuel 33 cs = some x) : ∃ r : Top.Rw, cs = [r.v] ∧ Top.RwIn w r := by
  have hone : ∃ v, cs = [v] := by
    rcases open_slice Tryd.underlying33 h with ⟨hcs, _⟩ | ⟨a, len, cap, m, n, D, Pl, hcs, _⟩
    · exact ⟨_, hcs⟩
    · exact ⟨_, hcs⟩
  obtain ⟨v, rfl⟩ := hone
  obtain ⟨A, b, o, c, l, rfl, ha, hc, hq, hlc, hcm⟩ := open_row (⟨none, 0, 0, 0, [], 0⟩ : Top.Rc) Top.Rc.cells (fun r => r.rd w ∧ (-9223372036854775808 ≤ r.m ∧ r.m < 9223372036854775808)) (show Tryd.prog.cellsOf 37 = 2 by kernel_rfl) (by omega) (fun _ => rfl) Tryd.underlying33 (fun _ _ _ h => rec_cs h) h
  exact ⟨⟨A, b, o, c, l⟩, rfl, ⟨ha, fun j hj => hc j hj 0 _ rfl, fun j hj => hc j hj 1 _ rfl, hq⟩⟩
theorem open_lists {b0 : Nat} {v : Value} {d : DataW H} {p : List MemPlace} (hv : Value.okWide Tryd.prog w .any b0 22 v) (h : DataW.Trod enc Tryd.prog w base spare held 22 v d p) :
    ∃ (A : Option Addr) (b o c : Nat) (L : List Top.Rw), v = .slice A L.length c ∧ Top.LsIn w A b o L := by
  obtain ⟨a, len, cap, rfl⟩ := okWide_slice Tryd.underlying22 hv
  obtain ⟨fuel, hf⟩ := h
  have hf : DataW.trod enc Tryd.prog w base spare held fuel 22 [.slice a len cap] = some (d, p) := hf
  obtain ⟨A, b, o, c, l, e, ha, hc, hq, hlc, hcm⟩ := open_row (⟨none, 0, 0, 0, []⟩ : Top.Rw) (fun r => [r.v]) (fun r => Top.RwIn w r) (show Tryd.prog.cellsOf 33 = 1 by kernel_rfl) (by omega) (fun _ => rfl) Tryd.underlying22 (fun _ _ _ h => row_cs h) hf
  refine ⟨A, b, o, c, l, e, ⟨ha, fun j hj => ?_, hq⟩⟩
  have := hc j hj 0 _ rfl
  rw [Nat.mul_one, Nat.add_zero] at this
  exact this
theorem open_keeps {b0 : Nat} {v : Value} {d : DataW H} {p : List MemPlace} (hv : Value.okWide Tryd.prog w .any b0 23 v) (h : DataW.Trod enc Tryd.prog w base spare held 23 v d p) :
    ∃ (A : Option Addr) (c : Nat) (ks : List Int), v = .slice A ks.length c ∧ Top.Keeps w.heap.size w A ks := by
  obtain ⟨a, len, cap, rfl⟩ := okWide_slice Tryd.underlying23 hv
  obtain ⟨fuel, hf⟩ := h
  have hf : DataW.trod enc Tryd.prog w base spare held fuel 23 [.slice a len cap] = some (d, p) := hf
  have each : ∀ (n : Nat) (cs : List Value) (x : DataW H × List MemPlace), DataW.trod enc Tryd.prog w base spare held n 3 cs = some x → ∃ q : Int, cs = [.int .i64 q] ∧ True := fun n cs x h => by
    obtain ⟨k1, e1, _, w1⟩ := DataW.trod_int Tryd.underlying3 h
    exact ⟨k1, e1, trivial⟩
  obtain ⟨A, b, o, c, l, e, ha, hc, _, hlc, hcm⟩ := open_row (0 : Int) (fun z => [.int .i64 z]) (fun _ => True) (show Tryd.prog.cellsOf 3 = 1 by kernel_rfl) (by omega) (fun _ => rfl) Tryd.underlying23 each hf
  refine ⟨A, c, l, e, ⟨b, o, ha, fun W hW j hj => ?_⟩⟩
  have := hc j hj 0 _ rfl
  rw [Nat.mul_one, Nat.add_zero] at this
  exact Top.cell_below hW this
end
end Go.Proofs.YtnmiipcoojijiaaDoor.Open
