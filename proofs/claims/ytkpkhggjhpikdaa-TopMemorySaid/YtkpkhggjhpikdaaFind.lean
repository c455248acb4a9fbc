/-
  The contract of the list's search (find); conditions: those that each theorem states.
-/
import Derived.Test.YtkpkhggjhpikdaaSkip
namespace Go.Proofs.Ytkpkhggjhpikdaa.Top
set_option linter.unusedSimpArgs false
set_option linter.unusedVariables false
open Go.RowKit Go.Proofs.YtkpkhggjhpikdaaW.PrintWords Go.Proofs.YtkpkhggjhpikdaaW.PrintLast Go.Proofs.YtkpkhggjhpikdaaW.PrintMore Go.Proofs.Ytkpkhggjhpikdaa.Plain
/-- Eight pointers: the last towers on each level. -/
def Eight (L : Nat) (P : List Nd) : Array Value := #[ptr (prd L 0 P), ptr (prd L 1 P), ptr (prd L 2 P), ptr (prd L 3 P), ptr (prd L 4 P), ptr (prd L 5 P), ptr (prd L 6 P), ptr (prd L 7 P)]
/-- The row of pointers, done above level j. -/
def RowAt (w : World) (o L : Nat) (P : List Nd) (j : Nat) : Prop := ∃ cs, w.heap[o]? = some (.cells cs 59 (0, 0)) ∧ cs.size = 8 ∧ ∀ i, j ≤ i → i < 8 → cs[i]? = some (ptr (prd L i P))
theorem prd_pos {L lev p : Nat} {A : List Nd} (h : Pos L lev A p) : prd L lev A = p := by
  rcases h with ⟨rfl, rfl⟩ | ⟨A', n, rfl, rfl, hn⟩
  · rfl
  · rw [prd_append]
    show (if lev < n.h then n.b else _) = n.b
    rw [if_pos hn]
/-- One look ahead. -/
theorem look {k : List Int} {D S : List Nd} (lev : Nat) (hD : ∀ n ∈ D, lts n.k k = true) (hS : ∀ n ∈ S, lts n.k k = false) :
    (nxt lev (D ++ S) = .pointer none ∧ ∀ n ∈ D, n.h ≤ lev) ∨ ∃ n C E, nxt lev (D ++ S) = ptr n.b ∧ D ++ S = C ++ n :: E ∧ lev < n.h ∧ ((∃ D', D = C ++ n :: D' ∧ lts n.k k = true) ∨ (lts n.k k = false ∧ ∀ m ∈ D, m.h ≤ lev)) := by
  rcases nxt_cases lev (D ++ S) with ⟨h1, h2⟩ | ⟨C, n, E, h1, h2, h3, h4⟩
  · exact .inl ⟨h1, fun n hn => h2 n (by simp [hn])⟩
  · refine .inr ⟨n, C, E, h4, h1, h3, ?_⟩
    by_cases hl : C.length < D.length
    · left
      have h5 := List.append_eq_append_iff.1 h1
      rcases h5 with ⟨a', h6, h7⟩ | ⟨c', h6, h7⟩
      · exfalso
        rw [h6] at hl
        simp at hl
        omega
      · cases c' with
        | nil => simp at h6; rw [h6] at hl; omega
        | cons x c' =>
          simp at h7
          obtain ⟨rfl, h7⟩ := h7
          exact ⟨c', h6, hD _ (by rw [h6]; simp)⟩
    · right
      have h5 := List.append_eq_append_iff.1 h1
      rcases h5 with ⟨a', h6, h7⟩ | ⟨c', h6, h7⟩
      · refine ⟨hS n (by rw [h7]; simp), fun m hm => h2 m (by rw [h6]; simp [hm])⟩
      · have hc : c' = [] := by
          cases c' with
          | nil => rfl
          | cons x c' => rw [h6] at hl; simp at hl
        subst hc
        simp at h6 h7
        exact ⟨hS n (by rw [← h7]; simp), fun m hm => h2 m (by rw [← h6]; exact hm)⟩
theorem RowAt.put {w : World} {o L j p : Nat} {P : List Nd} (h : RowAt w o L P (j + 1)) (hj : j < 8) (hp : prd L j P = p) : RowAt (w.setCell ⟨o, j, none⟩ (.pointer (some ⟨p, 0, none⟩))) o L P j := by
  obtain ⟨cs, h1, h2, h3⟩ := h
  refine ⟨cs.setIfInBounds j (.pointer (some ⟨p, 0, none⟩)), blk_put h1 j _ rfl, by simpa using h2, fun i hi hi8 => ?_⟩
  by_cases hij : i = j
  · subst hij
    rw [Array.getElem?_setIfInBounds, if_pos rfl, if_pos (by omega), hp]
    rfl
  · rw [Array.getElem?_setIfInBounds, if_neg (by omega)]
    exact h3 i (by omega) hi8
theorem RowAt.all {w : World} {o L : Nat} {P : List Nd} (h : RowAt w o L P 0) : w.heap[o]? = some (.cells (Eight L P) 59 (0, 0)) := by
  obtain ⟨cs, h1, h2, h3⟩ := h
  have : cs = Eight L P := by
    apply Array.ext
    · exact h2
    · intro i hi1 hi2
      have h8 : i < 8 := hi2
      have := h3 i (by omega) h8
      rw [Array.getElem?_eq_getElem hi1] at this
      have e := Option.some.inj this
      rw [e]
      rcases (by omega : i = 0 ∨ i = 1 ∨ i = 2 ∨ i = 3 ∨ i = 4 ∨ i = 5 ∨ i = 6 ∨ i = 7) with rfl | rfl | rfl | rfl | rfl | rfl | rfl | rfl <;> rfl
  rw [h1, this]
theorem blk_eight {w : World} {g : Nat} {t : TypeId} {c0 c1 c2 c3 c4 c5 c6 c7 : Value} (h : w.heap[g]? = some (.cells #[c0, c1, c2, c3, c4, c5, c6, c7] t (0, 0))) (v0 v1 v2 v3 v4 v5 v6 v7 : Value) : ((((((((w.setCell ⟨g, 0, none⟩ v0).setCell ⟨g, 1, none⟩ v1).setCell ⟨g, 2, none⟩ v2).setCell ⟨g, 3, none⟩ v3).setCell ⟨g, 4, none⟩ v4).setCell ⟨g, 5, none⟩ v5).setCell ⟨g, 6, none⟩ v6).setCell ⟨g, 7, none⟩ v7).heap[g]? = some (.cells #[v0, v1, v2, v3, v4, v5, v6, v7] t (0, 0)) := by
  have h0 : (w.setCell ⟨g, 0, none⟩ v0).heap[g]? = some (.cells #[v0, c1, c2, c3, c4, c5, c6, c7] t (0, 0)) := blk_put h 0 v0 rfl
  have h1 : ((w.setCell ⟨g, 0, none⟩ v0).setCell ⟨g, 1, none⟩ v1).heap[g]? = some (.cells #[v0, v1, c2, c3, c4, c5, c6, c7] t (0, 0)) := blk_put h0 1 v1 rfl
  have h2 : (((w.setCell ⟨g, 0, none⟩ v0).setCell ⟨g, 1, none⟩ v1).setCell ⟨g, 2, none⟩ v2).heap[g]? = some (.cells #[v0, v1, v2, c3, c4, c5, c6, c7] t (0, 0)) := blk_put h1 2 v2 rfl
  have h3 : ((((w.setCell ⟨g, 0, none⟩ v0).setCell ⟨g, 1, none⟩ v1).setCell ⟨g, 2, none⟩ v2).setCell ⟨g, 3, none⟩ v3).heap[g]? = some (.cells #[v0, v1, v2, v3, c4, c5, c6, c7] t (0, 0)) := blk_put h2 3 v3 rfl
  have h4 : (((((w.setCell ⟨g, 0, none⟩ v0).setCell ⟨g, 1, none⟩ v1).setCell ⟨g, 2, none⟩ v2).setCell ⟨g, 3, none⟩ v3).setCell ⟨g, 4, none⟩ v4).heap[g]? = some (.cells #[v0, v1, v2, v3, v4, c5, c6, c7] t (0, 0)) := blk_put h3 4 v4 rfl
  have h5 : ((((((w.setCell ⟨g, 0, none⟩ v0).setCell ⟨g, 1, none⟩ v1).setCell ⟨g, 2, none⟩ v2).setCell ⟨g, 3, none⟩ v3).setCell ⟨g, 4, none⟩ v4).setCell ⟨g, 5, none⟩ v5).heap[g]? = some (.cells #[v0, v1, v2, v3, v4, v5, c6, c7] t (0, 0)) := blk_put h4 5 v5 rfl
  have h6 : (((((((w.setCell ⟨g, 0, none⟩ v0).setCell ⟨g, 1, none⟩ v1).setCell ⟨g, 2, none⟩ v2).setCell ⟨g, 3, none⟩ v3).setCell ⟨g, 4, none⟩ v4).setCell ⟨g, 5, none⟩ v5).setCell ⟨g, 6, none⟩ v6).heap[g]? = some (.cells #[v0, v1, v2, v3, v4, v5, v6, c7] t (0, 0)) := blk_put h5 6 v6 rfl
  have h7 : ((((((((w.setCell ⟨g, 0, none⟩ v0).setCell ⟨g, 1, none⟩ v1).setCell ⟨g, 2, none⟩ v2).setCell ⟨g, 3, none⟩ v3).setCell ⟨g, 4, none⟩ v4).setCell ⟨g, 5, none⟩ v5).setCell ⟨g, 6, none⟩ v6).setCell ⟨g, 7, none⟩ v7).heap[g]? = some (.cells #[v0, v1, v2, v3, v4, v5, v6, v7] t (0, 0)) := blk_put h6 7 v7 rfl
  exact h7
theorem below_eight {B : Nat} {w0 w : World} {g : Nat} (h : Below B w0 w) (hg : B ≤ g) (v0 v1 v2 v3 v4 v5 v6 v7 : Value) : Below B w0 ((((((((w.setCell ⟨g, 0, none⟩ v0).setCell ⟨g, 1, none⟩ v1).setCell ⟨g, 2, none⟩ v2).setCell ⟨g, 3, none⟩ v3).setCell ⟨g, 4, none⟩ v4).setCell ⟨g, 5, none⟩ v5).setCell ⟨g, 6, none⟩ v6).setCell ⟨g, 7, none⟩ v7) := ((((((((h.setCell (p := ⟨g, 0, none⟩) hg v0).setCell (p := ⟨g, 1, none⟩) hg v1).setCell (p := ⟨g, 2, none⟩) hg v2).setCell (p := ⟨g, 3, none⟩) hg v3).setCell (p := ⟨g, 4, none⟩) hg v4).setCell (p := ⟨g, 5, none⟩) hg v5).setCell (p := ⟨g, 6, none⟩) hg v6).setCell (p := ⟨g, 7, none⟩) hg v7)
set_option maxHeartbeats 4000000 in
set_option maxRecDepth 100000 in
theorem find_c {w : World} {base L c : Nat} {A : Option Addr} {k : List Int} {P S : List Nd} (h : SkAt w base L (P ++ S)) (hk : RdB w A k) (hb : Byt k) (hP : ∀ n ∈ P, lts n.k k = true) (hS : ∀ n ∈ S, lts n.k k = false) :
    Calls Try.prog 21 #[ptr L, .slice A k.length c] w fun e w' => e = .returned (.agg (Eight L P)) ∧ Below w.heap.size w w' := by
  unfold ptr
  have HK := Aside0.mk hk
  have HP := Aside0.mk hP
  have HS := Aside0.mk hS
  have H0 := Aside0.mk h
  have hB : Below w.heap.size w ((w.alloc (.cells #[.pointer none, .pointer none, .pointer none, .pointer none, .pointer none, .pointer none, .pointer none, .pointer none] 59)).alloc (.cells #[.pointer none, .pointer none, .pointer none, .pointer none, .pointer none, .pointer none, .pointer none, .pointer none] 59)) := (((Below.refl _ w).alloc (Nat.le_refl _) _).alloc (by simp [World.size_alloc]) _)
  have hR : ((w.alloc (.cells #[.pointer none, .pointer none, .pointer none, .pointer none, .pointer none, .pointer none, .pointer none, .pointer none] 59)).alloc (.cells #[.pointer none, .pointer none, .pointer none, .pointer none, .pointer none, .pointer none, .pointer none, .pointer none] 59)).heap[w.heap.size]? = some (.cells #[.pointer none, .pointer none, .pointer none, .pointer none, .pointer none, .pointer none, .pointer none, .pointer none] 59 (0, 0)) := al_old (al_new rfl) _
  have hO : RowAt ((w.alloc (.cells #[.pointer none, .pointer none, .pointer none, .pointer none, .pointer none, .pointer none, .pointer none, .pointer none] 59)).alloc (.cells #[.pointer none, .pointer none, .pointer none, .pointer none, .pointer none, .pointer none, .pointer none, .pointer none] 59)) (w.heap.size + 1) L P 8 := ⟨_, al_new (by simp [World.size_alloc]), rfl, fun i h1 h2 => by omega⟩
  clear hk hP hS h
  go_enter Try.func21, Try.ntmps21
  go_wp2_with (first | go_step3 | fail)
  go_loopg [6, 7] (7 * (P.length + 1) + P.length) (fun m pv lv wr => ∃ (lev p : Nat) (B D : List Nd), pv = .pointer (some ⟨p, 0, none⟩) ∧ lv = .int .i64 lev ∧ lev < 8 ∧ Aside0 (P = B ++ D) ∧ Aside0 (Pos L lev B p) ∧ RowAt wr (w.heap.size + 1) L P (lev + 1) ∧
    wr.heap[w.heap.size]? = some (.cells #[.pointer none, .pointer none, .pointer none, .pointer none, .pointer none, .pointer none, .pointer none, .pointer none] 59 (0, 0)) ∧ Below w.heap.size w wr ∧ m = lev * (P.length + 1) + D.length)
  case atStart => exact ⟨7, L, [], P, rfl, rfl, by omega, ⟨rfl⟩, ⟨.inl ⟨rfl, rfl⟩⟩, hO, hR, hB, rfl⟩
  case round =>
    clear hB hR hO
    obtain ⟨lev, p, B, D, rfl, rfl, hl8, HE, HPos, hO, hR, hB, rfl⟩ := hrel
    have hSk := H0.out.below hB
    rw [HE.out, List.append_assoc] at hSk
    have hx := hSk.next HPos.out hl8
    have hlen : P.length = B.length + D.length := by rw [HE.out, List.length_append]
    obtain ⟨v0, hv0⟩ : ∃ v, wr.cell? ⟨w.heap.size + 1, lev, none⟩ = some v := by
      obtain ⟨cs, h1, h2, _⟩ := hO
      exact ⟨_, (cell_of_row wr _ _ cs _ (0, 0) h1).trans (Array.getElem?_eq_getElem (by omega))⟩
    have f0 : ∀ i, wr.frozen? ⟨w.heap.size + 1, i, none⟩ = false := fun i => by
      obtain ⟨cs, h1, _⟩ := hO
      exact blk_frozen h1 i
    rcases look (D := D) (S := S) lev (fun n hn => HP.out n (by rw [HE.out]; simp [hn])) HS.out with ⟨h1, hlow⟩ | ⟨n, C, E, h1, h2, h3, ⟨D', h4, h5⟩ | ⟨h4, hlow⟩⟩
    · rw [h1] at hx
      have hprd : prd L lev P = p := by rw [HE.out, prd_append, prd_pos HPos.out, prd_low _ hlow]
      subst hprd
      rcases (show lev = 0 ∨ ∃ l', lev = l' + 1 by cases lev with | zero => exact .inl rfl | succ l' => exact .inr ⟨l', rfl⟩) with rfl | ⟨l', rfl⟩
      · have hO1 := (hO.put (p := prd L 0 P) (by omega) rfl).all
        have hR1 : (wr.setCell ⟨w.heap.size + 1, 0, none⟩ (.pointer (some ⟨prd L 0 P, 0, none⟩))).heap[w.heap.size]? = _ := (Below.heap_setCell _ _ _ _ (by simp)).trans hR
        have hB1 : Below w.heap.size w (wr.setCell ⟨w.heap.size + 1, 0, none⟩ (.pointer (some ⟨prd L 0 P, 0, none⟩))) := hB.setCell (p := ⟨w.heap.size + 1, 0, none⟩) (by simp) _
        have e0 : (wr.setCell ⟨w.heap.size + 1, 0, none⟩ (.pointer (some ⟨prd L 0 P, 0, none⟩))).cell? ⟨w.heap.size + 1, 0, none⟩ = some (.pointer (some ⟨prd L 0 P, 0, none⟩)) := (blk_cell hO1 0).trans rfl
        have e1 : (wr.setCell ⟨w.heap.size + 1, 0, none⟩ (.pointer (some ⟨prd L 0 P, 0, none⟩))).cell? ⟨w.heap.size + 1, 1, none⟩ = some (.pointer (some ⟨prd L 1 P, 0, none⟩)) := (blk_cell hO1 1).trans rfl
        have e2 : (wr.setCell ⟨w.heap.size + 1, 0, none⟩ (.pointer (some ⟨prd L 0 P, 0, none⟩))).cell? ⟨w.heap.size + 1, 2, none⟩ = some (.pointer (some ⟨prd L 2 P, 0, none⟩)) := (blk_cell hO1 2).trans rfl
        have e3 : (wr.setCell ⟨w.heap.size + 1, 0, none⟩ (.pointer (some ⟨prd L 0 P, 0, none⟩))).cell? ⟨w.heap.size + 1, 3, none⟩ = some (.pointer (some ⟨prd L 3 P, 0, none⟩)) := (blk_cell hO1 3).trans rfl
        have e4 : (wr.setCell ⟨w.heap.size + 1, 0, none⟩ (.pointer (some ⟨prd L 0 P, 0, none⟩))).cell? ⟨w.heap.size + 1, 4, none⟩ = some (.pointer (some ⟨prd L 4 P, 0, none⟩)) := (blk_cell hO1 4).trans rfl
        have e5 : (wr.setCell ⟨w.heap.size + 1, 0, none⟩ (.pointer (some ⟨prd L 0 P, 0, none⟩))).cell? ⟨w.heap.size + 1, 5, none⟩ = some (.pointer (some ⟨prd L 5 P, 0, none⟩)) := (blk_cell hO1 5).trans rfl
        have e6 : (wr.setCell ⟨w.heap.size + 1, 0, none⟩ (.pointer (some ⟨prd L 0 P, 0, none⟩))).cell? ⟨w.heap.size + 1, 6, none⟩ = some (.pointer (some ⟨prd L 6 P, 0, none⟩)) := (blk_cell hO1 6).trans rfl
        have e7 : (wr.setCell ⟨w.heap.size + 1, 0, none⟩ (.pointer (some ⟨prd L 0 P, 0, none⟩))).cell? ⟨w.heap.size + 1, 7, none⟩ = some (.pointer (some ⟨prd L 7 P, 0, none⟩)) := (blk_cell hO1 7).trans rfl
        have r0 : (wr.setCell ⟨w.heap.size + 1, 0, none⟩ (.pointer (some ⟨prd L 0 P, 0, none⟩))).cell? ⟨w.heap.size, 0, none⟩ = some (.pointer none) := (blk_cell hR1 0).trans rfl
        have r1 : (wr.setCell ⟨w.heap.size + 1, 0, none⟩ (.pointer (some ⟨prd L 0 P, 0, none⟩))).cell? ⟨w.heap.size, 1, none⟩ = some (.pointer none) := (blk_cell hR1 1).trans rfl
        have r2 : (wr.setCell ⟨w.heap.size + 1, 0, none⟩ (.pointer (some ⟨prd L 0 P, 0, none⟩))).cell? ⟨w.heap.size, 2, none⟩ = some (.pointer none) := (blk_cell hR1 2).trans rfl
        have r3 : (wr.setCell ⟨w.heap.size + 1, 0, none⟩ (.pointer (some ⟨prd L 0 P, 0, none⟩))).cell? ⟨w.heap.size, 3, none⟩ = some (.pointer none) := (blk_cell hR1 3).trans rfl
        have r4 : (wr.setCell ⟨w.heap.size + 1, 0, none⟩ (.pointer (some ⟨prd L 0 P, 0, none⟩))).cell? ⟨w.heap.size, 4, none⟩ = some (.pointer none) := (blk_cell hR1 4).trans rfl
        have r5 : (wr.setCell ⟨w.heap.size + 1, 0, none⟩ (.pointer (some ⟨prd L 0 P, 0, none⟩))).cell? ⟨w.heap.size, 5, none⟩ = some (.pointer none) := (blk_cell hR1 5).trans rfl
        have r6 : (wr.setCell ⟨w.heap.size + 1, 0, none⟩ (.pointer (some ⟨prd L 0 P, 0, none⟩))).cell? ⟨w.heap.size, 6, none⟩ = some (.pointer none) := (blk_cell hR1 6).trans rfl
        have r7 : (wr.setCell ⟨w.heap.size + 1, 0, none⟩ (.pointer (some ⟨prd L 0 P, 0, none⟩))).cell? ⟨w.heap.size, 7, none⟩ = some (.pointer none) := (blk_cell hR1 7).trans rfl
        have q0 : (wr.setCell ⟨w.heap.size + 1, 0, none⟩ (.pointer (some ⟨prd L 0 P, 0, none⟩))).frozen? ⟨w.heap.size, 0, none⟩ = false := blk_frozen hR1 0
        have q1 : (wr.setCell ⟨w.heap.size + 1, 0, none⟩ (.pointer (some ⟨prd L 0 P, 0, none⟩))).frozen? ⟨w.heap.size, 1, none⟩ = false := blk_frozen hR1 1
        have q2 : (wr.setCell ⟨w.heap.size + 1, 0, none⟩ (.pointer (some ⟨prd L 0 P, 0, none⟩))).frozen? ⟨w.heap.size, 2, none⟩ = false := blk_frozen hR1 2
        have q3 : (wr.setCell ⟨w.heap.size + 1, 0, none⟩ (.pointer (some ⟨prd L 0 P, 0, none⟩))).frozen? ⟨w.heap.size, 3, none⟩ = false := blk_frozen hR1 3
        have q4 : (wr.setCell ⟨w.heap.size + 1, 0, none⟩ (.pointer (some ⟨prd L 0 P, 0, none⟩))).frozen? ⟨w.heap.size, 4, none⟩ = false := blk_frozen hR1 4
        have q5 : (wr.setCell ⟨w.heap.size + 1, 0, none⟩ (.pointer (some ⟨prd L 0 P, 0, none⟩))).frozen? ⟨w.heap.size, 5, none⟩ = false := blk_frozen hR1 5
        have q6 : (wr.setCell ⟨w.heap.size + 1, 0, none⟩ (.pointer (some ⟨prd L 0 P, 0, none⟩))).frozen? ⟨w.heap.size, 6, none⟩ = false := blk_frozen hR1 6
        have q7 : (wr.setCell ⟨w.heap.size + 1, 0, none⟩ (.pointer (some ⟨prd L 0 P, 0, none⟩))).frozen? ⟨w.heap.size, 7, none⟩ = false := blk_frozen hR1 7
        clear HE HPos hO hR hB hSk
        go_wp2
        rw [Exit.noGoto_ret]
        refine bodyPost_ret (results_cell_row rfl _ _ w.heap.size 59 (Eight L P) (0, 0) _ rfl (blk_eight hR1 _ _ _ _ _ _ _ _) Try.underlying59 rfl (by kernel_rfl)) rfl ?_
        exact ⟨rfl, below_eight hB1 (Nat.le_refl _) _ _ _ _ _ _ _ _⟩
      · have hO1 := hO.put (p := prd L (l' + 1) P) (by omega) rfl
        have hR1 : (wr.setCell ⟨w.heap.size + 1, l' + 1, none⟩ (.pointer (some ⟨prd L (l' + 1) P, 0, none⟩))).heap[w.heap.size]? = _ := (Below.heap_setCell _ _ _ _ (by simp)).trans hR
        have hB1 : Below w.heap.size w (wr.setCell ⟨w.heap.size + 1, l' + 1, none⟩ (.pointer (some ⟨prd L (l' + 1) P, 0, none⟩))) := hB.setCell (p := ⟨w.heap.size + 1, l' + 1, none⟩) (by simp) _
        have hPos1 : Pos L l' B (prd L (l' + 1) P) := by
          rcases HPos.out with h | ⟨B', n', hb1, hb2, hb3⟩
          · exact .inl h
          · exact .inr ⟨B', n', hb1, hb2, by omega⟩
        have HPos1 := Aside0.mk hPos1
        clear hSk hPos1
        go_wp2
        go_roundg (l' * (P.length + 1) + D.length)
        case measure => rw [Nat.succ_mul]; omega
        case rel => exact ⟨l', prd L (l' + 1) P, B, D, rfl, by go_num, by omega, HE, HPos1, hO1, hR1, hB1, rfl⟩
    · rw [h1] at hx
      unfold ptr at hx
      rw [h2, ← List.append_assoc] at hSk
      obtain ⟨Ak, ck, hkc, hkr, _⟩ := hSk.key
      have hkb := (hSk.ky n (by simp)).1
      have hd : decide (cmpB n.k k < 0) = true := by rw [less_dec hkb hb]; exact h5
      have HKr := Aside0.mk hkr
      have HE1 : Aside0 (P = (B ++ C ++ [n]) ++ D') := ⟨by rw [HE.out, h4]; simp⟩
      have HPos1 : Aside0 (Pos L lev (B ++ C ++ [n]) n.b) := ⟨.inr ⟨B ++ C, n, rfl, rfl, h3⟩⟩
      have hm : D'.length < D.length := by rw [h4]; simp; omega
      have HKw : Aside0 (RdB wr A k) := ⟨HK.out.below hB⟩
      clear hSk hkr h2 h4 hlen
      go_wp2_with (refine (compare_c HKr.out HKw.out).mono ?_; rintro e w3 ⟨rfl, rfl⟩)
      go_roundg (lev * (P.length + 1) + D'.length)
      case measure => omega
      case rel => exact ⟨lev, n.b, B ++ C ++ [n], D', rfl, rfl, by omega, HE1, HPos1, hO, hR, hB, rfl⟩
    · rw [h1] at hx
      unfold ptr at hx
      rw [h2, ← List.append_assoc] at hSk
      obtain ⟨Ak, ck, hkc, hkr, _⟩ := hSk.key
      have hkb := (hSk.ky n (by simp)).1
      have hd : decide (cmpB n.k k < 0) = false := by rw [less_dec hkb hb]; exact h4
      have HKr := Aside0.mk hkr
      have HKw : Aside0 (RdB wr A k) := ⟨HK.out.below hB⟩
      clear hkr h2
      have hprd : prd L lev P = p := by rw [HE.out, prd_append, prd_pos HPos.out, prd_low _ hlow]
      subst hprd
      rcases (show lev = 0 ∨ ∃ l', lev = l' + 1 by cases lev with | zero => exact .inl rfl | succ l' => exact .inr ⟨l', rfl⟩) with rfl | ⟨l', rfl⟩
      · have hO1 := (hO.put (p := prd L 0 P) (by omega) rfl).all
        have hR1 : (wr.setCell ⟨w.heap.size + 1, 0, none⟩ (.pointer (some ⟨prd L 0 P, 0, none⟩))).heap[w.heap.size]? = _ := (Below.heap_setCell _ _ _ _ (by simp)).trans hR
        have hB1 : Below w.heap.size w (wr.setCell ⟨w.heap.size + 1, 0, none⟩ (.pointer (some ⟨prd L 0 P, 0, none⟩))) := hB.setCell (p := ⟨w.heap.size + 1, 0, none⟩) (by simp) _
        have e0 : (wr.setCell ⟨w.heap.size + 1, 0, none⟩ (.pointer (some ⟨prd L 0 P, 0, none⟩))).cell? ⟨w.heap.size + 1, 0, none⟩ = some (.pointer (some ⟨prd L 0 P, 0, none⟩)) := (blk_cell hO1 0).trans rfl
        have e1 : (wr.setCell ⟨w.heap.size + 1, 0, none⟩ (.pointer (some ⟨prd L 0 P, 0, none⟩))).cell? ⟨w.heap.size + 1, 1, none⟩ = some (.pointer (some ⟨prd L 1 P, 0, none⟩)) := (blk_cell hO1 1).trans rfl
        have e2 : (wr.setCell ⟨w.heap.size + 1, 0, none⟩ (.pointer (some ⟨prd L 0 P, 0, none⟩))).cell? ⟨w.heap.size + 1, 2, none⟩ = some (.pointer (some ⟨prd L 2 P, 0, none⟩)) := (blk_cell hO1 2).trans rfl
        have e3 : (wr.setCell ⟨w.heap.size + 1, 0, none⟩ (.pointer (some ⟨prd L 0 P, 0, none⟩))).cell? ⟨w.heap.size + 1, 3, none⟩ = some (.pointer (some ⟨prd L 3 P, 0, none⟩)) := (blk_cell hO1 3).trans rfl
        have e4 : (wr.setCell ⟨w.heap.size + 1, 0, none⟩ (.pointer (some ⟨prd L 0 P, 0, none⟩))).cell? ⟨w.heap.size + 1, 4, none⟩ = some (.pointer (some ⟨prd L 4 P, 0, none⟩)) := (blk_cell hO1 4).trans rfl
        have e5 : (wr.setCell ⟨w.heap.size + 1, 0, none⟩ (.pointer (some ⟨prd L 0 P, 0, none⟩))).cell? ⟨w.heap.size + 1, 5, none⟩ = some (.pointer (some ⟨prd L 5 P, 0, none⟩)) := (blk_cell hO1 5).trans rfl
        have e6 : (wr.setCell ⟨w.heap.size + 1, 0, none⟩ (.pointer (some ⟨prd L 0 P, 0, none⟩))).cell? ⟨w.heap.size + 1, 6, none⟩ = some (.pointer (some ⟨prd L 6 P, 0, none⟩)) := (blk_cell hO1 6).trans rfl
        have e7 : (wr.setCell ⟨w.heap.size + 1, 0, none⟩ (.pointer (some ⟨prd L 0 P, 0, none⟩))).cell? ⟨w.heap.size + 1, 7, none⟩ = some (.pointer (some ⟨prd L 7 P, 0, none⟩)) := (blk_cell hO1 7).trans rfl
        have r0 : (wr.setCell ⟨w.heap.size + 1, 0, none⟩ (.pointer (some ⟨prd L 0 P, 0, none⟩))).cell? ⟨w.heap.size, 0, none⟩ = some (.pointer none) := (blk_cell hR1 0).trans rfl
        have r1 : (wr.setCell ⟨w.heap.size + 1, 0, none⟩ (.pointer (some ⟨prd L 0 P, 0, none⟩))).cell? ⟨w.heap.size, 1, none⟩ = some (.pointer none) := (blk_cell hR1 1).trans rfl
        have r2 : (wr.setCell ⟨w.heap.size + 1, 0, none⟩ (.pointer (some ⟨prd L 0 P, 0, none⟩))).cell? ⟨w.heap.size, 2, none⟩ = some (.pointer none) := (blk_cell hR1 2).trans rfl
        have r3 : (wr.setCell ⟨w.heap.size + 1, 0, none⟩ (.pointer (some ⟨prd L 0 P, 0, none⟩))).cell? ⟨w.heap.size, 3, none⟩ = some (.pointer none) := (blk_cell hR1 3).trans rfl
        have r4 : (wr.setCell ⟨w.heap.size + 1, 0, none⟩ (.pointer (some ⟨prd L 0 P, 0, none⟩))).cell? ⟨w.heap.size, 4, none⟩ = some (.pointer none) := (blk_cell hR1 4).trans rfl
        have r5 : (wr.setCell ⟨w.heap.size + 1, 0, none⟩ (.pointer (some ⟨prd L 0 P, 0, none⟩))).cell? ⟨w.heap.size, 5, none⟩ = some (.pointer none) := (blk_cell hR1 5).trans rfl
        have r6 : (wr.setCell ⟨w.heap.size + 1, 0, none⟩ (.pointer (some ⟨prd L 0 P, 0, none⟩))).cell? ⟨w.heap.size, 6, none⟩ = some (.pointer none) := (blk_cell hR1 6).trans rfl
        have r7 : (wr.setCell ⟨w.heap.size + 1, 0, none⟩ (.pointer (some ⟨prd L 0 P, 0, none⟩))).cell? ⟨w.heap.size, 7, none⟩ = some (.pointer none) := (blk_cell hR1 7).trans rfl
        have q0 : (wr.setCell ⟨w.heap.size + 1, 0, none⟩ (.pointer (some ⟨prd L 0 P, 0, none⟩))).frozen? ⟨w.heap.size, 0, none⟩ = false := blk_frozen hR1 0
        have q1 : (wr.setCell ⟨w.heap.size + 1, 0, none⟩ (.pointer (some ⟨prd L 0 P, 0, none⟩))).frozen? ⟨w.heap.size, 1, none⟩ = false := blk_frozen hR1 1
        have q2 : (wr.setCell ⟨w.heap.size + 1, 0, none⟩ (.pointer (some ⟨prd L 0 P, 0, none⟩))).frozen? ⟨w.heap.size, 2, none⟩ = false := blk_frozen hR1 2
        have q3 : (wr.setCell ⟨w.heap.size + 1, 0, none⟩ (.pointer (some ⟨prd L 0 P, 0, none⟩))).frozen? ⟨w.heap.size, 3, none⟩ = false := blk_frozen hR1 3
        have q4 : (wr.setCell ⟨w.heap.size + 1, 0, none⟩ (.pointer (some ⟨prd L 0 P, 0, none⟩))).frozen? ⟨w.heap.size, 4, none⟩ = false := blk_frozen hR1 4
        have q5 : (wr.setCell ⟨w.heap.size + 1, 0, none⟩ (.pointer (some ⟨prd L 0 P, 0, none⟩))).frozen? ⟨w.heap.size, 5, none⟩ = false := blk_frozen hR1 5
        have q6 : (wr.setCell ⟨w.heap.size + 1, 0, none⟩ (.pointer (some ⟨prd L 0 P, 0, none⟩))).frozen? ⟨w.heap.size, 6, none⟩ = false := blk_frozen hR1 6
        have q7 : (wr.setCell ⟨w.heap.size + 1, 0, none⟩ (.pointer (some ⟨prd L 0 P, 0, none⟩))).frozen? ⟨w.heap.size, 7, none⟩ = false := blk_frozen hR1 7
        clear HE HPos hO hR hB hSk
        go_wp2_with (refine (compare_c HKr.out HKw.out).mono ?_; rintro e w3 ⟨rfl, rfl⟩)
        rw [Exit.noGoto_ret]
        refine bodyPost_ret (results_cell_row rfl _ _ w.heap.size 59 (Eight L P) (0, 0) _ rfl (blk_eight hR1 _ _ _ _ _ _ _ _) Try.underlying59 rfl (by kernel_rfl)) rfl ?_
        exact ⟨rfl, below_eight hB1 (Nat.le_refl _) _ _ _ _ _ _ _ _⟩
      · have hO1 := hO.put (p := prd L (l' + 1) P) (by omega) rfl
        have hR1 : (wr.setCell ⟨w.heap.size + 1, l' + 1, none⟩ (.pointer (some ⟨prd L (l' + 1) P, 0, none⟩))).heap[w.heap.size]? = _ := (Below.heap_setCell _ _ _ _ (by simp)).trans hR
        have hB1 : Below w.heap.size w (wr.setCell ⟨w.heap.size + 1, l' + 1, none⟩ (.pointer (some ⟨prd L (l' + 1) P, 0, none⟩))) := hB.setCell (p := ⟨w.heap.size + 1, l' + 1, none⟩) (by simp) _
        have hPos1 : Pos L l' B (prd L (l' + 1) P) := by
          rcases HPos.out with h | ⟨B', n', hb1, hb2, hb3⟩
          · exact .inl h
          · exact .inr ⟨B', n', hb1, hb2, by omega⟩
        have HPos1 := Aside0.mk hPos1
        clear hSk hPos1
        go_wp2_with (refine (compare_c HKr.out HKw.out).mono ?_; rintro e w3 ⟨rfl, rfl⟩)
        go_roundg (l' * (P.length + 1) + D.length)
        case measure => rw [Nat.succ_mul]; omega
        case rel => exact ⟨l', prd L (l' + 1) P, B, D, rfl, by go_num, by omega, HE, HPos1, hO1, hR1, hB1, rfl⟩
end Go.Proofs.Ytkpkhggjhpikdaa.Top
