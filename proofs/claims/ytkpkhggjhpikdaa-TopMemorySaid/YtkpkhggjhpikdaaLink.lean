/-
  A tower is put into the list, level by level; conditions: those that each theorem states.
-/
import Derived.Test.YtkpkhggjhpikdaaFind
namespace Go.Proofs.Ytkpkhggjhpikdaa.Top
set_option linter.unusedSimpArgs false
set_option linter.unusedVariables false
open Go.RowKit Go.Proofs.YtkpkhggjhpikdaaW.PrintWords Go.Proofs.YtkpkhggjhpikdaaW.PrintLast Go.Proofs.YtkpkhggjhpikdaaW.PrintMore Go.Proofs.Ytkpkhggjhpikdaa.Plain
section
variable {w : World} {base L : Nat}
/-- Another block is written: the entry stands. -/
theorem NdAt.off {n : Nd} {B : List Nd} (h : NdAt w base n B) {X o : Nat} {t : TypeId} {cs : Array Value} (hne : n.b ≠ X) (hX : w.heap[X]? = some (.cells cs t (0, 0))) (ht : t ≠ 5) (v : Value) : NdAt (w.setCell ⟨X, o, none⟩ v) base n B := by
  obtain ⟨cs1, kv, h1, h2, h3, h4, h5, h6, h7⟩ := h
  refine ⟨cs1, kv, (Below.heap_setCell _ _ _ _ hne).trans h1, h2, h3, h4, h5, own_move h6 (fun k hk => Below.heap_setCell _ _ _ _ ?_), h7⟩
  rintro rfl
  obtain ⟨cs2, hc⟩ := own_typed h6 _ hk
  rw [hX] at hc
  simp at hc
  exact ht hc.2
theorem NsAt.off {X o : Nat} {t : TypeId} {cs : Array Value} (hX : w.heap[X]? = some (.cells cs t (0, 0))) (ht : t ≠ 5) (v : Value) : ∀ {ns : List Nd}, NsAt w base ns → (∀ n ∈ ns, n.b ≠ X) → NsAt (w.setCell ⟨X, o, none⟩ v) base ns
  | [], _, _ => trivial
  | n :: t', ⟨h1, h2⟩, hne => ⟨h1.off (hne n (by simp)) hX ht v, NsAt.off hX ht v h2 (fun m hm => hne m (by simp [hm]))⟩
/-- A pointer of the entry is written. -/
theorem NdAt.set {n : Nd} {B B' : List Nd} {h' j : Nat} {v : Value} (h : NdAt w base n B) (hj : j < 8) (h1 : ∀ i, i < 8 → i < h' → i ≠ j → i < n.h ∧ nxt i B' = nxt i B) (h2 : j < h' → nxt j B' = v) :
    NdAt (w.setCell ⟨n.b, 7 + j, none⟩ v) base ⟨n.b, h', n.k, n.a⟩ B' := by
  obtain ⟨cs, kv, g1, g2, g3, ⟨c1, c2, c3, c4, c5, c6⟩, g5, g6, g7⟩ := h
  have far : ∀ i, i < 7 → (cs.setIfInBounds (7 + j) v)[i]? = cs[i]? := fun i hi => by rw [Array.getElem?_setIfInBounds, if_neg (by omega)]
  refine ⟨cs.setIfInBounds (7 + j) v, kv, blk_put g1 (7 + j) v rfl, by simpa using g2, (far 0 (by omega)).trans g3, ⟨(far 1 (by omega)).trans c1, (far 2 (by omega)).trans c2, (far 3 (by omega)).trans c3, (far 4 (by omega)).trans c4, (far 5 (by omega)).trans c5, (far 6 (by omega)).trans c6⟩, fun i hi hih => ?_, own_move g6 (fun k hk => Below.heap_setCell _ _ _ _ ?_), g7⟩
  · by_cases hij : i = j
    · subst hij
      rw [Array.getElem?_setIfInBounds, if_pos rfl, if_pos (by omega), h2 hih]
    · rw [Array.getElem?_setIfInBounds, if_neg (by omega), g5 i hi (h1 i hi hih hij).1, (h1 i hi hih hij).2]
  · rintro rfl
    obtain ⟨cs2, hc⟩ := own_typed g6 _ hk
    rw [g1] at hc
    simp at hc
theorem nxt_other {i j : Nat} (hij : i ≠ j) (nb : Nat) (k : List Int) (a : Ag) (S : List Nd) : ∀ B : List Nd, nxt i (B ++ ⟨nb, j + 1, k, a⟩ :: S) = nxt i (B ++ ⟨nb, j, k, a⟩ :: S)
  | [] => by
    show (if i < j + 1 then ptr nb else nxt i S) = if i < j then ptr nb else nxt i S
    by_cases h : i < j
    · rw [if_pos h, if_pos (by omega)]
    · rw [if_neg h, if_neg (by omega)]
  | n :: t => by
    show (if i < n.h then ptr n.b else nxt i (t ++ _)) = if i < n.h then ptr n.b else nxt i (t ++ _)
    rw [nxt_other hij nb k a S t]
theorem nxt_before {i : Nat} {X Y : List Nd} : ∀ {B : List Nd}, (∃ m ∈ B, i < m.h) → nxt i (B ++ X) = nxt i (B ++ Y)
  | [], h => by obtain ⟨_, h, _⟩ := h; cases h
  | n :: t, h => by
    show (if i < n.h then ptr n.b else nxt i (t ++ X)) = if i < n.h then ptr n.b else nxt i (t ++ Y)
    by_cases hn : i < n.h
    · rw [if_pos hn, if_pos hn]
    · rw [if_neg hn, if_neg hn]
      obtain ⟨m, hm, hi⟩ := h
      rcases List.mem_cons.1 hm with rfl | hm
      · exact absurd hi hn
      · exact nxt_before ⟨m, hm, hi⟩
theorem prd_mem {i : Nat} : ∀ (B : List Nd) (L : Nat), (∃ m ∈ B, i < m.h) → ∃ m ∈ B, i < m.h ∧ prd L i B = m.b
  | [], _, h => by obtain ⟨_, h, _⟩ := h; cases h
  | n :: t, L, h => by
    by_cases ht : ∃ m ∈ t, i < m.h
    · obtain ⟨m, hm, hi, he⟩ := prd_mem t (if i < n.h then n.b else L) ht
      exact ⟨m, by simp [hm], hi, he⟩
    · have hlow : ∀ m ∈ t, m.h ≤ i := fun m hm => Nat.le_of_not_lt (fun hi => ht ⟨m, hm, hi⟩)
      have hn : i < n.h := by
        obtain ⟨m, hm, hi⟩ := h
        rcases List.mem_cons.1 hm with rfl | hm
        · exact hi
        · exact absurd ⟨m, hm, hi⟩ ht
      refine ⟨n, by simp, hn, ?_⟩
      unfold prd
      rw [prd_low _ hlow, if_pos hn]
theorem prd_same {j : Nat} : ∀ (B : List Nd) (u v : Nat), (∃ z ∈ B, j < z.h) → prd u j B = prd v j B
  | [], _, _, h => by obtain ⟨_, h, _⟩ := h; cases h
  | m :: B, u, v, h => by
    unfold prd
    by_cases hm : j < m.h
    · rw [if_pos hm, if_pos hm]
    · rw [if_neg hm, if_neg hm]
      refine prd_same B u v ?_
      obtain ⟨z, hz, hzi⟩ := h
      rcases List.mem_cons.1 hz with rfl | hz
      · exact absurd hzi hm
      · exact ⟨z, hz, hzi⟩
theorem low_or {i : Nat} (B : List Nd) : (∀ m ∈ B, m.h ≤ i) ∨ ∃ m ∈ B, i < m.h := by
  by_cases h : ∃ m ∈ B, i < m.h
  · exact .inr h
  · exact .inl fun m hm => Nat.le_of_not_lt fun hi => h ⟨m, hm, hi⟩
/-- What the tower's pointers mean, one level more. -/
theorem nxt_link {nb j : Nat} {k : List Int} {a : Ag} {B S : List Nd} : nxt j (B ++ ⟨nb, j + 1, k, a⟩ :: S) = if (∀ m ∈ B, m.h ≤ j) then ptr nb else nxt j (B ++ ⟨nb, j, k, a⟩ :: S) := by
  by_cases h : ∀ m ∈ B, m.h ≤ j
  · rw [if_pos h, nxt_low h]
    show (if j < j + 1 then ptr nb else _) = _
    rw [if_pos (by omega)]
  · rw [if_neg h]
    exact nxt_before ((low_or B).resolve_left h)
/-- The pointer behind the insertion on level j is q's. -/
theorem link_ns {nb j q : Nat} {k : List Int} {a : Ag} {S : List Nd} {t : TypeId} {cs : Array Value} (hj : j < 8) (hq : w.heap[q]? = some (.cells cs t (0, 0))) (ht : t ≠ 5) (hnb : nb ≠ q) (hS : ∀ m ∈ S, m.b ≠ q) (hnS : NdAt w base ⟨nb, j + 1, k, a⟩ S) (hSS : NsAt w base S) :
    ∀ (B : List Nd), NsAt w base (B ++ ⟨nb, j, k, a⟩ :: S) → (B.map Nd.b).Nodup → (∀ m ∈ B, m.b = q → prd q j B = m.b) → (∀ m ∈ B, m.b ≠ q → ∀ B1 B2, B = B1 ++ m :: B2 → j < m.h → ∃ x ∈ B2, j < x.h) →
      NsAt (w.setCell ⟨q, 7 + j, none⟩ (ptr nb)) base (B ++ ⟨nb, j + 1, k, a⟩ :: S)
  | [], _, _, _, _ => ⟨hnS.off hnb hq ht _, hSS.off hq ht _ hS⟩
  | n :: B, ⟨h1, h2⟩, hnd, hp, hb => by
    have ih := link_ns hj hq ht hnb hS hnS hSS B h2 (by simp at hnd; exact hnd.2)
    have hnd' : n.b ∉ B.map Nd.b := by simp at hnd ⊢; exact hnd.1
    have hrest : NsAt (w.setCell ⟨q, 7 + j, none⟩ (ptr nb)) base (B ++ ⟨nb, j + 1, k, a⟩ :: S) := by
      refine ih (fun m hm he => ?_) (fun m hm he B1 B2 hB => hb m (by simp [hm]) he (n :: B1) B2 (by rw [hB]; rfl))
      have h := hp m (by simp [hm]) he
      unfold prd at h
      split at h
      · rcases low_or (i := j) B with hl | hl
        · rw [prd_low _ hl] at h
          exact absurd (List.mem_map_of_mem (f := Nd.b) hm) (by rw [← h]; exact hnd')
        · obtain ⟨x, hx, hxi, hxe⟩ := prd_mem B n.b hl
          obtain ⟨y, hy, hyi, hye⟩ := prd_mem B q hl
          rw [hye]
          rw [hxe] at h
          -- both are the last towers of B
          have : prd n.b j B = prd q j B := prd_same B n.b q hl
          rw [← hye, ← this, hxe, h]
      · exact h
    refine ⟨?_, hrest⟩
    by_cases hnq : n.b = q
    · have hlow : j < n.h → ∀ m ∈ B, m.h ≤ j := by
        intro hjn
        rcases low_or (i := j) B with hl | hl
        · exact hl
        · exfalso
          have h := hp n (by simp) hnq
          unfold prd at h
          obtain ⟨x, hx, hxi, hxe⟩ := prd_mem B (if j < n.h then n.b else q) hl
          rw [hxe] at h
          exact hnd' (by rw [← h]; exact List.mem_map_of_mem hx)
      have := NdAt.set (B' := B ++ ⟨nb, j + 1, k, a⟩ :: S) (h' := n.h) (v := ptr nb) h1 hj (fun i hi hih hij => ⟨hih, nxt_other hij nb k a S B⟩) (fun hjh => by rw [nxt_link, if_pos (hlow hjh)])
      rw [hnq] at this
      have e : (⟨q, n.h, n.k, n.a⟩ : Nd) = n := by rw [← hnq]
      rw [e] at this
      exact this
    · have h3 := h1.off (o := 7 + j) hnq hq ht (ptr nb)
      obtain ⟨cs1, kv, g1, g2, g3, g4, g5, g6, g7⟩ := h3
      refine ⟨cs1, kv, g1, g2, g3, g4, fun i hi hih => ?_, g6, g7⟩
      rw [g5 i hi hih]
      by_cases hij : i = j
      · subst hij
        exact congrArg some (nxt_before (hb n (by simp) hnq [] B rfl hih))
      · exact congrArg some (nxt_other hij nb k a S B).symm
theorem nxt_zero {i nb : Nat} {k : List Int} {a : Ag} {S : List Nd} : ∀ (B : List Nd), nxt i (B ++ ⟨nb, 0, k, a⟩ :: S) = nxt i (B ++ S)
  | [] => by
    show (if i < 0 then ptr nb else nxt i S) = nxt i S
    rw [if_neg (by omega)]
  | n :: t => by
    show (if i < n.h then ptr n.b else nxt i (t ++ _)) = if i < n.h then ptr n.b else nxt i (t ++ _)
    rw [nxt_zero t]
theorem NsAt.ins0 {nb : Nat} {k : List Int} {a : Ag} {S : List Nd} (hn : NdAt w base ⟨nb, 0, k, a⟩ S) : ∀ {P : List Nd}, NsAt w base (P ++ S) → NsAt w base (P ++ ⟨nb, 0, k, a⟩ :: S)
  | [], h => ⟨hn, h⟩
  | n :: P, ⟨⟨cs, kv, g1, g2, g3, g4, g5, g6, g7⟩, h2⟩ => ⟨⟨cs, kv, g1, g2, g3, g4, fun i hi hih => (g5 i hi hih).trans (congrArg some (nxt_zero P).symm), g6, g7⟩, NsAt.ins0 hn h2⟩
theorem NsAt.right {S : List Nd} : ∀ {P : List Nd}, NsAt w base (P ++ S) → NsAt w base S
  | [], h => h
  | _ :: P, h => NsAt.right (P := P) h.2
theorem NsAt.mid {w1 : World} {n : Nd} {S : List Nd} (hn : NdAt w1 base n S) (hS : NsAt w1 base S) : ∀ {P : List Nd}, NsAt w base (P ++ n :: S) → (∀ m ∈ P, ∀ B, NdAt w base m B → NdAt w1 base m B) → NsAt w1 base (P ++ n :: S)
  | [], _, _ => ⟨hn, hS⟩
  | m :: P, ⟨h1, h2⟩, hm => ⟨hm m (by simp) _ h1, NsAt.mid hn hS h2 (fun x hx => hm x (by simp [hx]))⟩
theorem NsAt.typed {m : Nd} : ∀ {ns : List Nd}, NsAt w base ns → m ∈ ns → ∃ cs, w.heap[m.b]? = some (.cells cs 61 (0, 0))
  | [], _, h => by cases h
  | n :: t, ⟨⟨cs, _, h1, _⟩, h2⟩, h => by
    rcases List.mem_cons.1 h with rfl | h
    · exact ⟨cs, h1⟩
    · exact NsAt.typed h2 h
/-- A tower that is being put in: linked below level j. -/
structure SkM (w : World) (base L : Nat) (P S : List Nd) (nb j : Nat) (k : List Int) (a : Ag) (cnt : Int) : Prop where
  hd : HdAt w L (P ++ ⟨nb, j, k, a⟩ :: S) cnt
  Lb : True
  nodes : NsAt w base (P ++ ⟨nb, j, k, a⟩ :: S)
  nodup : ((P ++ S).map Nd.b).Nodup
  fresh : ∀ m ∈ P ++ S, m.b ≠ nb
theorem SkM.Lne {P S : List Nd} {nb j : Nat} {k : List Int} {a : Ag} {cnt : Int} (h : SkM w base L P S nb j k a cnt) {m : Nd} (hm : m ∈ P ++ ⟨nb, j, k, a⟩ :: S) : m.b ≠ L := by
  obtain ⟨cs, h1⟩ := h.nodes.typed hm
  obtain ⟨cs2, _, h2, _⟩ := h.hd
  intro e
  rw [e, h2] at h1
  simp at h1
/-- The last tower's pointer, and its block. -/
theorem SkM.prd_cell {P S : List Nd} {nb j : Nat} {k : List Int} {a : Ag} {cnt : Int} (h : SkM w base L P S nb j k a cnt) (hj : j < 8) :
    w.cell? ⟨prd L j P, 7 + j, none⟩ = some (nxt j S) ∧ (∃ cs t, w.heap[prd L j P]? = some (.cells cs t (0, 0)) ∧ (t = 61 ∨ t = 63)) ∧ prd L j P ≠ nb ∧ (∀ m ∈ S, m.b ≠ prd L j P) ∧ min base L ≤ prd L j P := by
  have hnj : nxt j (⟨nb, j, k, a⟩ :: S) = nxt j S := by
    show (if j < j then ptr nb else nxt j S) = _
    rw [if_neg (by omega)]
  rcases low_or (i := j) P with hl | hl
  · rw [prd_low _ hl]
    obtain ⟨cs, z, h1, _, h2, _⟩ := h.hd
    refine ⟨(cell_of_row w L _ cs _ (0, 0) h1).trans ((h2 j hj).trans (congrArg some (by rw [nxt_low hl, hnj]))), ⟨cs, _, h1, .inr rfl⟩, fun e => h.Lne (m := ⟨nb, j, k, a⟩) (by simp) e.symm, fun m hm => h.Lne (by simp [hm]), Nat.min_le_right _ _⟩
  · obtain ⟨m, hm, hi, he⟩ := prd_mem P L hl
    rw [he]
    obtain ⟨A, B, rfl⟩ := List.append_of_mem hm
    have hBlow : ∀ x ∈ B, x.h ≤ j := by
      rcases low_or (i := j) B with h1 | h1
      · exact h1
      · exfalso
        obtain ⟨y, hy, _, hye⟩ := prd_mem B (if j < m.h then m.b else prd L j A) h1
        rw [prd_append] at he
        have : m.b = y.b := he.symm.trans hye
        have hnd := h.nodup
        simp only [List.map_append, List.map_cons] at hnd
        rw [List.append_assoc, List.nodup_append] at hnd
        have hnd2 := hnd.2.1
        rw [List.cons_append, List.nodup_cons] at hnd2
        exact hnd2.1 (by rw [this]; exact List.mem_append_left _ (List.mem_map_of_mem hy))
    have hn := NsAt.at (A := A) (B := B ++ ⟨nb, j, k, a⟩ :: S) (n := m) (by have := h.nodes; simpa using this)
    obtain ⟨cs, kv, g1, _, _, _, g5, _, g7⟩ := hn
    refine ⟨(cell_of_row w m.b _ cs _ (0, 0) g1).trans ((g5 j hj hi).trans (congrArg some (by rw [nxt_low hBlow, hnj]))), ⟨cs, _, g1, .inl rfl⟩, h.fresh m (by simp), fun x hx e => ?_, Nat.le_trans (Nat.min_le_left _ _) g7⟩
    have hnd := h.nodup
    simp only [List.map_append, List.map_cons, List.append_assoc, List.cons_append] at hnd
    rw [List.nodup_append] at hnd
    have hnd2 := hnd.2.1
    rw [List.nodup_cons] at hnd2
    exact hnd2.1 (by rw [← e]; exact List.mem_append_right _ (List.mem_map_of_mem hx))
theorem SkM.step {P S : List Nd} {nb j : Nat} {k : List Int} {a : Ag} {cnt : Int} (h : SkM w base L P S nb j k a cnt) (hj : j < 8) :
    SkM ((w.setCell ⟨nb, 7 + j, none⟩ (nxt j S)).setCell ⟨prd L j P, 7 + j, none⟩ (ptr nb)) base L P S nb (j + 1) k a cnt := by
  obtain ⟨_, ⟨csq, tq, hq, htq⟩, hqn, hqS, _⟩ := h.prd_cell hj
  have hnj := NsAt.at (A := P) h.nodes
  have hLn : L ≠ nb := fun e => h.Lne (m := ⟨nb, j, k, a⟩) (by simp) e.symm
  have hSS := NsAt.right (P := [⟨nb, j, k, a⟩]) (NsAt.right (P := P) h.nodes)
  obtain ⟨csn, hcsn⟩ := h.nodes.typed (m := ⟨nb, j, k, a⟩) (by simp)
  have hPn : ∀ m ∈ P, m.b ≠ nb := fun m hm => h.fresh m (by simp [hm])
  have hSn : ∀ m ∈ S, m.b ≠ nb := fun m hm => h.fresh m (by simp [hm])
  have a1 : NdAt (w.setCell ⟨nb, 7 + j, none⟩ (nxt j S)) base ⟨nb, j + 1, k, a⟩ S := NdAt.set (h' := j + 1) hnj hj (fun i hi hih hij => ⟨(show i < j by omega), rfl⟩) (fun _ => rfl)
  have a0 : NdAt (w.setCell ⟨nb, 7 + j, none⟩ (nxt j S)) base ⟨nb, j, k, a⟩ S := NdAt.set (h' := j) hnj hj (fun i hi hih hij => ⟨hih, rfl⟩) (fun hh => absurd hh (by omega))
  have s1 := NsAt.off (o := 7 + j) hcsn (by decide) (nxt j S) hSS hSn
  have n1 : NsAt (w.setCell ⟨nb, 7 + j, none⟩ (nxt j S)) base (P ++ ⟨nb, j, k, a⟩ :: S) := NsAt.mid a0 s1 h.nodes (fun m hm B hB => hB.off (hPn m hm) hcsn (by decide) _)
  have hq1 : (w.setCell ⟨nb, 7 + j, none⟩ (nxt j S)).heap[prd L j P]? = some (.cells csq tq (0, 0)) := (Below.heap_setCell _ _ _ _ hqn).trans hq
  have htu : tq ≠ 5 := by rcases htq with rfl | rfl <;> decide
  have hndP : (P.map Nd.b).Nodup := by
    have := h.nodup
    rw [List.map_append, List.nodup_append] at this
    exact this.1
  refine ⟨?_, h.Lb, link_ns hj hq1 htu (Ne.symm hqn) hqS a1 s1 P n1 hndP (fun m hm he => ?_) (fun m hm he B1 B2 hB hjm => ?_), h.nodup, h.fresh⟩
  · obtain ⟨cs, z, h1, h2, h3, h4⟩ := h.hd
    have h1' : (w.setCell ⟨nb, 7 + j, none⟩ (nxt j S)).heap[L]? = some (.cells cs 63 (0, 0)) := (Below.heap_setCell _ _ _ _ hLn).trans h1
    by_cases hqL : prd L j P = L
    · have hlow : ∀ m ∈ P, m.h ≤ j := by
        rcases low_or (i := j) P with hl | hl
        · exact hl
        · obtain ⟨m, hm, _, he⟩ := prd_mem P L hl
          exact absurd (he.symm.trans hqL) (h.Lne (by simp [hm]))
      rw [hqL]
      refine ⟨cs.setIfInBounds (7 + j) (ptr nb), z, blk_put h1' (7 + j) _ rfl, by simpa using h2, fun i hi => ?_, ?_, ?_, ?_⟩
      · by_cases hij : i = j
        · subst hij
          rw [Array.getElem?_setIfInBounds, if_pos rfl, if_pos (by omega), nxt_link, if_pos hlow]
        · rw [Array.getElem?_setIfInBounds, if_neg (by omega), h3 i hi, nxt_other hij nb k a S P]
      · rw [Array.getElem?_setIfInBounds, if_neg (by omega)]; exact h4.1
      · rw [Array.getElem?_setIfInBounds, if_neg (by omega)]; exact h4.2.1
      · rw [Array.getElem?_setIfInBounds, if_neg (by omega)]; exact h4.2.2
    · refine ⟨cs, z, (Below.heap_setCell _ _ _ _ (Ne.symm hqL)).trans h1', h2, fun i hi => ?_, h4⟩
      rw [h3 i hi]
      by_cases hij : i = j
      · subst hij
        refine congrArg some (nxt_before ?_)
        rcases low_or (i := i) P with hl | hl
        · exact absurd (prd_low _ hl) hqL
        · exact hl
      · exact congrArg some (nxt_other hij nb k a S P).symm
  · rcases low_or (i := j) P with hl | hl
    · exact absurd (he.trans (prd_low _ hl)) (h.Lne (by simp [hm]))
    · rw [prd_same P (prd L j P) L hl]
      exact he.symm
  · rcases low_or (i := j) B2 with hl | hl
    · exfalso
      apply he
      rw [hB, prd_append]
      show m.b = prd (if j < m.h then m.b else _) j B2
      rw [if_pos hjm, prd_low _ hl]
    · exact hl
end
end Go.Proofs.Ytkpkhggjhpikdaa.Top
namespace Go.Proofs.Ytkpkhggjhpikdaa.Top
set_option linter.unusedSimpArgs false
set_option linter.unusedVariables false
open Go.RowKit Go.Proofs.YtkpkhggjhpikdaaW.PrintWords Go.Proofs.YtkpkhggjhpikdaaW.PrintLast Go.Proofs.YtkpkhggjhpikdaaW.PrintMore Go.Proofs.Ytkpkhggjhpikdaa.Plain
def Nd.with (n : Nd) (a : Ag) : Nd := ⟨n.b, n.h, n.k, a⟩
theorem nxt_with (i : Nat) (n : Nd) (a : Ag) (S : List Nd) : ∀ P : List Nd, nxt i (P ++ n.with a :: S) = nxt i (P ++ n :: S)
  | [] => rfl
  | m :: P => by
    show (if i < m.h then ptr m.b else nxt i (P ++ _)) = if i < m.h then ptr m.b else nxt i (P ++ _)
    rw [nxt_with i n a S P]
section
variable {w w1 : World} {base L : Nat}
theorem NsAt.swap {n : Nd} {a : Ag} {S : List Nd} (hn : NdAt w1 base (n.with a) S) (hS : NsAt w1 base S) : ∀ {P : List Nd}, NsAt w base (P ++ n :: S) → (∀ m ∈ P, ∀ B, NdAt w base m B → NdAt w1 base m B) → NsAt w1 base (P ++ n.with a :: S)
  | [], _, _ => ⟨hn, hS⟩
  | m :: P, ⟨h1, h2⟩, hm => by
    refine ⟨?_, NsAt.swap hn hS h2 (fun x hx => hm x (by simp [hx]))⟩
    obtain ⟨cs, kv, g1, g2, g3, g4, g5, g6, g7⟩ := hm m (by simp) _ h1
    exact ⟨cs, kv, g1, g2, g3, g4, fun i hi hih => (g5 i hi hih).trans (congrArg some (nxt_with i n a S P).symm), g6, g7⟩
/-- The six cells of what is known are written. -/
def setAg (w : World) (g o : Nat) (a : Ag) : World := ((((((w.setCell ⟨g, o, none⟩ (.int .u64 a.c)).setCell ⟨g, o + 1, none⟩ (.bool a.o)).setCell ⟨g, o + 2, none⟩ (.int .i64 a.hi)).setCell ⟨g, o + 3, none⟩ (.int .u64 a.lo)).setCell ⟨g, o + 4, none⟩ (.int .i64 a.mn)).setCell ⟨g, o + 5, none⟩ (.int .i64 a.mx))
theorem setAg_far {g o k : Nat} {a : Ag} (hk : k ≠ g) : (setAg w g o a).heap[k]? = w.heap[k]? := by
  unfold setAg
  rw [Below.heap_setCell _ _ _ _ hk, Below.heap_setCell _ _ _ _ hk, Below.heap_setCell _ _ _ _ hk, Below.heap_setCell _ _ _ _ hk, Below.heap_setCell _ _ _ _ hk, Below.heap_setCell _ _ _ _ hk]
theorem setAg_blk {g o : Nat} {a : Ag} {t : TypeId} {cs : Array Value} (h : w.heap[g]? = some (.cells cs t (0, 0))) : (setAg w g o a).heap[g]? = some (.cells ((((((cs.setIfInBounds o (.int .u64 a.c)).setIfInBounds (o + 1) (.bool a.o)).setIfInBounds (o + 2) (.int .i64 a.hi)).setIfInBounds (o + 3) (.int .u64 a.lo)).setIfInBounds (o + 4) (.int .i64 a.mn)).setIfInBounds (o + 5) (.int .i64 a.mx)) t (0, 0)) :=
  blk_put (blk_put (blk_put (blk_put (blk_put (blk_put h o _ rfl) (o + 1) _ rfl) (o + 2) _ rfl) (o + 3) _ rfl) (o + 4) _ rfl) (o + 5) _ rfl
theorem setAg_below {B : Nat} {w0 : World} {g o : Nat} {a : Ag} (h : Below B w0 w) (hg : B ≤ g) : Below B w0 (setAg w g o a) :=
  (((((h.setCell (p := ⟨g, o, none⟩) hg _).setCell (p := ⟨g, o + 1, none⟩) hg _).setCell (p := ⟨g, o + 2, none⟩) hg _).setCell (p := ⟨g, o + 3, none⟩) hg _).setCell (p := ⟨g, o + 4, none⟩) hg _).setCell (p := ⟨g, o + 5, none⟩) hg _
theorem NdAt.agg {n : Nd} {a : Ag} {B : List Nd} (h : NdAt w base n B) : NdAt (setAg w n.b 1 a) base (n.with a) B := by
  obtain ⟨cs, kv, g1, g2, g3, g4, g5, g6, g7⟩ := h
  refine ⟨_, kv, setAg_blk g1, by simpa using g2, ?_, ⟨?_, ?_, ?_, ?_, ?_, ?_⟩, fun i hi hih => ?_, own_move g6 (fun k hk => setAg_far ?_), g7⟩
  · simp [Array.getElem?_setIfInBounds, g3]
  · simp [Array.getElem?_setIfInBounds, g2, Nd.with]
  · simp [Array.getElem?_setIfInBounds, g2, Nd.with]
  · simp [Array.getElem?_setIfInBounds, g2, Nd.with]
  · simp [Array.getElem?_setIfInBounds, g2, Nd.with]
  · simp [Array.getElem?_setIfInBounds, g2, Nd.with]
  · simp [Array.getElem?_setIfInBounds, g2, Nd.with]
  · rw [Array.getElem?_setIfInBounds, if_neg (by omega), Array.getElem?_setIfInBounds, if_neg (by omega), Array.getElem?_setIfInBounds, if_neg (by omega), Array.getElem?_setIfInBounds, if_neg (by omega), Array.getElem?_setIfInBounds, if_neg (by omega), Array.getElem?_setIfInBounds, if_neg (by omega)]
    exact g5 i hi hih
  · rintro rfl
    obtain ⟨cs2, hc⟩ := own_typed g6 _ hk
    rw [g1] at hc
    simp at hc
theorem NdAt.far {n : Nd} {B : List Nd} (h : NdAt w base n B) {X : Nat} (hf : ∀ k, k ≠ X → w1.heap[k]? = w.heap[k]?) (hne : n.b ≠ X) {t : TypeId} {cs : Array Value} (hX : w.heap[X]? = some (.cells cs t (0, 0))) (ht : t ≠ 5) : NdAt w1 base n B := by
  obtain ⟨cs1, kv, h1, h2, h3, h4, h5, h6, h7⟩ := h
  refine ⟨cs1, kv, (hf _ hne).trans h1, h2, h3, h4, h5, own_move h6 (fun k hk => hf _ ?_), h7⟩
  rintro rfl
  obtain ⟨cs2, hc⟩ := own_typed h6 _ hk
  rw [hX] at hc
  simp at hc
  exact ht hc.2
theorem NsAt.far {X : Nat} (hf : ∀ k, k ≠ X → w1.heap[k]? = w.heap[k]?) {t : TypeId} {cs : Array Value} (hX : w.heap[X]? = some (.cells cs t (0, 0))) (ht : t ≠ 5) : ∀ {ns : List Nd}, NsAt w base ns → (∀ n ∈ ns, n.b ≠ X) → NsAt w1 base ns
  | [], _, _ => trivial
  | n :: t', ⟨h1, h2⟩, hne => ⟨h1.far hf (hne n (by simp)) hX ht, NsAt.far hf hX ht h2 (fun m hm => hne m (by simp [hm]))⟩
theorem SkAt.agg {P S : List Nd} {n : Nd} {a : Ag} (h : SkAt w base L (P ++ n :: S)) : SkAt (setAg w n.b 1 a) base L (P ++ n.with a :: S) := by
  obtain ⟨cs, hcs⟩ := h.nodes.typed (m := n) (by simp)
  have hnd := h.nodup
  simp only [List.map_append, List.map_cons, List.nodup_append, List.nodup_cons] at hnd
  have hP : ∀ m ∈ P, m.b ≠ n.b := fun m hm e => hnd.2.2 m.b (List.mem_map_of_mem hm) n.b (by simp) e
  have hS : ∀ m ∈ S, m.b ≠ n.b := fun m hm e => hnd.2.1.1 (by rw [← e]; exact List.mem_map_of_mem hm)
  have hLn : L ≠ n.b := by
    obtain ⟨cs2, _, h2, _⟩ := h.hd
    rintro rfl
    rw [hcs] at h2
    simp at h2
  have far : ∀ k, k ≠ n.b → (setAg w n.b 1 a).heap[k]? = w.heap[k]? := fun k hk => setAg_far hk
  refine ⟨?_, h.Lb, NsAt.swap (NdAt.agg (NsAt.at h.nodes)) (NsAt.far far hcs (by decide) (NsAt.right (P := [n]) (NsAt.right (P := P) h.nodes)) hS) h.nodes (fun m hm B hB => hB.far far (hP m hm) hcs (by decide)), ?_, ?_, fun m hm => ?_, fun m hm => ?_⟩
  · obtain ⟨cs2, z, g1, g2, g3, g4⟩ := h.hd
    refine ⟨cs2, z, (far _ hLn).trans g1, g2, fun i hi => (g3 i hi).trans (congrArg some (nxt_with i n a S P).symm), ?_⟩
    simpa using g4
  · have := h.srt
    rw [List.pairwise_append, List.pairwise_cons] at this ⊢
    exact ⟨this.1, ⟨fun m hm => this.2.1.1 m hm, this.2.1.2⟩, fun x hx y hy => by
      rcases List.mem_cons.1 hy with rfl | hy
      · exact this.2.2 x hx n (by simp)
      · exact this.2.2 x hx y (by simp [hy])⟩
  · simpa [Nd.with] using h.nodup
  · rcases List.mem_append.1 hm with hm | hm
    · exact h.ky m (by simp [hm])
    · rcases List.mem_cons.1 hm with rfl | hm
      · exact h.ky n (by simp)
      · exact h.ky m (by simp [hm])
  · rcases List.mem_append.1 hm with hm | hm
    · exact h.ht m (by simp [hm])
    · rcases List.mem_cons.1 hm with rfl | hm
      · exact h.ht n (by simp)
      · exact h.ht m (by simp [hm])
/-- A tower that is linked on all its levels. -/
theorem SkM.done {P S : List Nd} {nb j : Nat} {k : List Int} {a : Ag} {ns : List Nd} (h : SkM w base L P S nb j k a (ns.length + 1 : Nat)) (hns : ns = P ++ S) (h0 : SkAt w1 base L (P ++ S)) (hj1 : 1 ≤ j) (hj8 : j ≤ 8) (hk : Byt k ∧ 0 < k.length ∧ k.length ≤ 200)
    (hP : ∀ n ∈ P, lts n.k k = true) (hS : ∀ n ∈ S, lts k n.k = true) : SkAt w base L (P ++ ⟨nb, j, k, a⟩ :: S) := by
  subst hns
  refine ⟨?_, h.Lb, h.nodes, ?_, ?_, fun m hm => ?_, fun m hm => ?_⟩
  · have := h.hd
    have e : ((P ++ ⟨nb, j, k, a⟩ :: S).length : Int) = (((P ++ S).length + 1 : Nat) : Int) := by simp; omega
    rw [e]
    exact this
  · have := h0.srt
    rw [List.pairwise_append] at this
    rw [List.pairwise_append, List.pairwise_cons]
    exact ⟨this.1, ⟨hS, this.2.1⟩, fun x hx y hy => by
      rcases List.mem_cons.1 hy with rfl | hy
      · exact hP x hx
      · exact this.2.2 x hx y hy⟩
  · have h1 := h.nodup
    simp only [List.map_append, List.nodup_append] at h1
    simp only [List.map_append, List.map_cons, List.nodup_append, List.nodup_cons]
    refine ⟨h1.1, ⟨fun hm => ?_, h1.2.1⟩, fun x hx y hy => ?_⟩
    · obtain ⟨m, hm, e⟩ := List.mem_map.1 hm
      exact h.fresh m (by simp [hm]) e
    · rcases List.mem_cons.1 hy with rfl | hy
      · obtain ⟨m, hm, e⟩ := List.mem_map.1 hx
        rw [← e]
        exact h.fresh m (by simp [hm])
      · exact h1.2.2 x hx y hy
  · rcases List.mem_append.1 hm with hm | hm
    · exact h0.ky m (by simp [hm])
    · rcases List.mem_cons.1 hm with rfl | hm
      · exact hk
      · exact h0.ky m (by simp [hm])
  · rcases List.mem_append.1 hm with hm | hm
    · exact h0.ht m (by simp [hm])
    · rcases List.mem_cons.1 hm with rfl | hm
      · exact ⟨hj1, hj8⟩
      · exact h0.ht m (by simp [hm])
end
end Go.Proofs.Ytkpkhggjhpikdaa.Top
