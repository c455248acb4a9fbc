/-
  Facts put into a list by their keys, plainly: in order, each key once, with what its facts are; conditions: those that each theorem states.
-/
import Derived.Test.YtkpkhggjhpikdaaPut
import Derived.Test.YtkpkhggjhpikdaaKLaws
import Derived.Test.YtkpkhggjhpikdaaEvs
namespace Go.Proofs.Ytkpkhggjhpikdaa.Top
set_option linter.unusedSimpArgs false
set_option linter.unusedVariables false
open Go.RowKit Go.Proofs.YtkpkhggjhpikdaaW.PrintWords Go.Proofs.YtkpkhggjhpikdaaW.PrintLast Go.Proofs.YtkpkhggjhpikdaaW.PrintMore Go.Proofs.Ytkpkhggjhpikdaa.Plain Go.Proofs.Ytkpkhggjhpikdaa.KFns Go.Proofs.Ytkpkhggjhpikdaa.Fns
abbrev Con := List (List Int × Ag)
def Srt (c : Con) : Prop := c.Pairwise fun p q => lts p.1 q.1 = true
theorem insF_cons (k' : List Int) (a' : Ag) (t : Con) (k : List Int) (a : Ag) : insF ((k', a') :: t) k a = if lts k' k = true then (k', a') :: insF t k a else if k' = k then (k', mergeF a' a) :: t else (k, a) :: (k', a') :: t := rfl
theorem insF_mem {k : List Int} {a : Ag} : ∀ {c : Con}, Srt c → ∀ p ∈ insF c k a, (p ∈ c ∧ p.1 ≠ k) ∨ (p = (k, a) ∧ ∀ q ∈ c, q.1 ≠ k) ∨ ∃ a', (k, a') ∈ c ∧ p = (k, mergeF a' a)
  | [], _, p, hp => by
    rcases List.mem_singleton.1 hp with rfl
    exact .inr (.inl ⟨rfl, fun _ h => by cases h⟩)
  | (k', a') :: t, hs, p, hp => by
    obtain ⟨h1, h2⟩ := List.pairwise_cons.1 hs
    rw [insF_cons] at hp
    by_cases hl : lts k' k = true
    · have hne : k' ≠ k := by
        rintro rfl
        rw [lts_irrefl] at hl
        cases hl
      rw [if_pos hl] at hp
      rcases List.mem_cons.1 hp with rfl | hp
      · exact .inl ⟨by simp, hne⟩
      · rcases insF_mem h2 p hp with ⟨h, hk⟩ | ⟨h, hk⟩ | ⟨a2, h, hk⟩
        · exact .inl ⟨by simp [h], hk⟩
        · refine .inr (.inl ⟨h, fun q hq => ?_⟩)
          rcases List.mem_cons.1 hq with rfl | hq
          · exact hne
          · exact hk q hq
        · exact .inr (.inr ⟨a2, by simp [h], hk⟩)
    · rw [if_neg hl] at hp
      by_cases he : k' = k
      · subst he
        rw [if_pos rfl] at hp
        rcases List.mem_cons.1 hp with rfl | hp
        · exact .inr (.inr ⟨a', by simp, rfl⟩)
        · refine .inl ⟨by simp [hp], fun e => ?_⟩
          have := h1 p hp
          rw [e, lts_irrefl] at this
          cases this
      · rw [if_neg he] at hp
        have hgt : lts k k' = true := by
          cases h : lts k k'
          · exact absurd (lts_total _ _ (Bool.eq_false_iff.2 hl) h) he
          · rfl
        have hall : ∀ q ∈ (k', a') :: t, q.1 ≠ k := fun q hq e => by
          rcases List.mem_cons.1 hq with rfl | hq
          · exact he e
          · have h3 := h1 q hq
            rw [e] at h3
            exact hl h3
        rcases List.mem_cons.1 hp with rfl | hp
        · exact .inr (.inl ⟨rfl, hall⟩)
        · exact .inl ⟨hp, hall p hp⟩
theorem insF_key {k : List Int} {a : Ag} : ∀ {c : Con}, ∃ a', (k, a') ∈ insF c k a
  | [] => ⟨a, by simp [insF]⟩
  | (k', a') :: t => by
    rw [insF_cons]
    split
    · obtain ⟨x, hx⟩ := insF_key (k := k) (a := a) (c := t)
      exact ⟨x, by simp [hx]⟩
    · split
      · rename_i h
        subst h
        exact ⟨_, List.mem_cons_self⟩
      · exact ⟨a, by simp⟩
theorem insF_keeps {k : List Int} {a : Ag} : ∀ {c : Con} (q : List Int × Ag), q ∈ c → ∃ a', (q.1, a') ∈ insF c k a
  | [], _, h => by cases h
  | (k', a') :: t, q, h => by
    rw [insF_cons]
    rcases List.mem_cons.1 h with rfl | h
    · split
      · exact ⟨a', by simp⟩
      · split
        · exact ⟨_, List.mem_cons_self⟩
        · exact ⟨a', by simp⟩
    · split
      · obtain ⟨x, hx⟩ := insF_keeps (k := k) (a := a) q h
        exact ⟨x, by simp [hx]⟩
      · split
        · exact ⟨q.2, by simp [h]⟩
        · exact ⟨q.2, by simp [h]⟩
theorem insF_len {k : List Int} {a : Ag} : ∀ {c : Con}, (insF c k a).length ≤ c.length + 1
  | [] => by simp [insF]
  | (k', a') :: t => by
    rw [insF_cons]
    have := insF_len (k := k) (a := a) (c := t)
    split
    · simp only [List.length_cons]
      omega
    · split
      · simp only [List.length_cons]
        omega
      · simp only [List.length_cons]
        omega
theorem insF_srt {k : List Int} {a : Ag} : ∀ {c : Con}, Srt c → Srt (insF c k a)
  | [], _ => by simp [insF, Srt]
  | (k', a') :: t, hs => by
    have hs' := hs
    obtain ⟨h1, h2⟩ := List.pairwise_cons.1 hs
    rw [insF_cons]
    by_cases hl : lts k' k = true
    · rw [if_pos hl]
      refine List.pairwise_cons.2 ⟨fun p hp => ?_, insF_srt h2⟩
      rcases insF_mem h2 p hp with ⟨h, _⟩ | ⟨rfl, _⟩ | ⟨a2, _, rfl⟩
      · exact h1 p h
      · exact hl
      · exact hl
    · rw [if_neg hl]
      by_cases he : k' = k
      · subst he
        rw [if_pos rfl]
        exact List.pairwise_cons.2 ⟨h1, h2⟩
      · rw [if_neg he]
        have hgt : lts k k' = true := by
          cases h : lts k k'
          · exact absurd (lts_total _ _ (Bool.eq_false_iff.2 hl) h) he
          · rfl
        refine List.pairwise_cons.2 ⟨fun p hp => ?_, hs'⟩
        rcases List.mem_cons.1 hp with rfl | hp
        · exact hgt
        · exact ltsT _ _ _ hgt (h1 p hp)
/-- A fact's key, as bytes. -/
def kf (x : Lib.S36) : List Int := kb x.f0 x.f1 0
def okf (x : Lib.S36) : Bool := rightB x.f0 x.f1 0
/-- What a list holds when facts are put in. -/
def conF (l : List Lib.S36) : Con := l.foldl (fun c x => insF c (kf x) (oneF x.f2)) []
/-- A key's values. -/
def valsF (l : List Lib.S36) (k : List Int) : List Int := (l.filter fun x => decide (kf x = k)).map Lib.S36.f2
theorem conF_snoc (l : List Lib.S36) (x : Lib.S36) : conF (l ++ [x]) = insF (conF l) (kf x) (oneF x.f2) := by
  unfold conF
  rw [List.foldl_append]
  rfl
theorem valsF_snoc (l : List Lib.S36) (x : Lib.S36) (k : List Int) : valsF (l ++ [x]) k = valsF l k ++ (if kf x = k then [x.f2] else []) := by
  unfold valsF
  rw [List.filter_append, List.map_append]
  by_cases h : kf x = k <;> simp [h]
theorem manyF_snoc (l : List Int) (v : Int) : manyF (l ++ [v]) = mergeF (manyF l) (oneF v) := by
  unfold manyF
  rw [List.foldl_append]
  rfl
theorem merge_zero (a : Ag) : mergeF zeroF a = a := by
  unfold mergeF
  rw [if_pos (show zeroF.c = 0 from rfl)]
structure ConOk (l : List Lib.S36) : Prop where
  srt : Srt (conF l)
  all : ∀ x ∈ l, ∃ a, (kf x, a) ∈ conF l
  agg : ∀ p ∈ conF l, p.2 = manyF (valsF l p.1) ∧ ∃ x ∈ l, kf x = p.1
  len : (conF l).length ≤ l.length
theorem snoc_ind {α : Type} {p : List α → Prop} (h0 : p []) (h1 : ∀ l x, p l → p (l ++ [x])) (l : List α) : p l := by
  have : ∀ m : List α, p m.reverse := by
    intro m
    induction m with
    | nil => exact h0
    | cons x m ih =>
      rw [List.reverse_cons]
      exact h1 _ _ ih
  have h := this l.reverse
  rwa [List.reverse_reverse] at h
theorem con_ok (l : List Lib.S36) : ConOk l := by
  refine snoc_ind (p := ConOk) ⟨List.Pairwise.nil, (fun _ h => by cases h), (fun _ h => by cases h), Nat.le_refl _⟩ ?_ l
  · intro l x ih
    refine ⟨?_, ?_, ?_, ?_⟩
    · rw [conF_snoc]
      exact insF_srt ih.srt
    · intro y hy
      rw [conF_snoc]
      rcases List.mem_append.1 hy with hy | hy
      · obtain ⟨a, ha⟩ := ih.all y hy
        exact insF_keeps _ ha
      · rw [List.mem_singleton.1 hy]
        exact insF_key
    · intro p hp
      rw [conF_snoc] at hp
      rw [valsF_snoc]
      rcases insF_mem ih.srt p hp with ⟨h, hk⟩ | ⟨rfl, hk⟩ | ⟨a', h, rfl⟩
      · obtain ⟨h1, y, hy, h2⟩ := ih.agg p h
        rw [if_neg (Ne.symm hk), List.append_nil]
        exact ⟨h1, y, by simp [hy], h2⟩
      · have hv : valsF l (kf x) = [] := by
          unfold valsF
          rw [List.map_eq_nil_iff, List.filter_eq_nil_iff]
          intro y hy e
          obtain ⟨a, ha⟩ := ih.all y hy
          exact hk _ ha (of_decide_eq_true e)
        refine ⟨?_, x, by simp, rfl⟩
        rw [hv, if_pos rfl, List.nil_append]
        show oneF x.f2 = mergeF zeroF (oneF x.f2)
        rw [merge_zero]
      · obtain ⟨h1, y, hy, h2⟩ := ih.agg _ h
        refine ⟨?_, x, by simp, rfl⟩
        simp only at h1
        rw [if_pos rfl, manyF_snoc, ← h1]
    · rw [conF_snoc, List.length_append]
      have := insF_len (k := kf x) (a := oneF x.f2) (c := conF l)
      have := ih.len
      simp only [List.length_singleton]
      omega
theorem con_some {l : List Lib.S36} (h : l ≠ []) : conF l ≠ [] := fun e => by
  cases l with
  | nil => exact h rfl
  | cons x l =>
    obtain ⟨a, ha⟩ := (con_ok (x :: l)).all x (by simp)
    rw [e] at ha
    cases ha
/-- Neither stands ahead of the other: the keys are the same. -/
theorem same_key {k k' : List Int} : (!lts k k' && !lts k' k) = decide (k = k') := by
  by_cases h : k = k'
  · subst h
    simp [lts_irrefl]
  · rw [decide_eq_false h]
    cases h1 : lts k k'
    · cases h2 : lts k' k
      · exact absurd (lts_total _ _ h1 h2) h
      · rfl
    · rfl
end Go.Proofs.Ytkpkhggjhpikdaa.Top
namespace Go.Proofs.Ytkpkhggjhpikdaa.Top
set_option linter.unusedSimpArgs false
set_option linter.unusedVariables false
open Go.RowKit Go.Proofs.YtkpkhggjhpikdaaW.PrintWords Go.Proofs.YtkpkhggjhpikdaaW.PrintLast Go.Proofs.YtkpkhggjhpikdaaW.PrintMore Go.Proofs.Ytkpkhggjhpikdaa.Plain Go.Proofs.Ytkpkhggjhpikdaa.KFns Go.Proofs.Ytkpkhggjhpikdaa.Fns
theorem many_l1 {l : List Lib.S36} (hl : l.length ≤ 60) {i : Nat} (hi : i < l.length) (hd : (Lib.rd_T36 l i).f0.length ≤ 20) {r : Bool} (h0 : Ev (fun k => Lib.rickyardlaw15_Many.l0 k l ((i + 1 : Nat) : Int)) r) :
    ∀ (n j : Nat), j + n = (Lib.rd_T36 l i).f0.length → ∃ r', Ev (fun k => Lib.rickyardlaw15_Many.l1 k l (i : Int) (j : Int)) r'
  | 0, j, hj => by
    refine ⟨r, Ev.step (fun _ => by rw [Lib.rickyardlaw15_Many.l1]) ?_⟩
    refine ev_pos (by omega) (ev_pos (by omega) (ev_neg (by omega) ?_))
    rw [show wrap64 ((i : Int) + 1) = ((i + 1 : Nat) : Int) by rw [w64 (by omega) (by omega)]; omega]
    exact h0
  | n + 1, j, hj => by
    by_cases hs : ((rdOf ByteArray.empty ((Lib.rd_T36 l i).f0) (j : Int)).size : Int) > 100
    · refine ⟨true, Ev.step (fun _ => by rw [Lib.rickyardlaw15_Many.l1]) ?_⟩
      exact ev_pos (by omega) (ev_pos (by omega) (ev_pos (by omega) (ev_pos (by omega) (ev_pos hs (ev_now rfl)))))
    · obtain ⟨r', h'⟩ := many_l1 hl hi hd h0 n (j + 1) (by omega)
      refine ⟨r', Ev.step (fun _ => by rw [Lib.rickyardlaw15_Many.l1]) ?_⟩
      refine ev_pos (by omega) (ev_pos (by omega) (ev_pos (by omega) (ev_pos (by omega) (ev_neg hs ?_))))
      rw [show wrap64 ((j : Int) + 1) = ((j + 1 : Nat) : Int) by rw [w64 (by omega) (by omega)]; omega]
      exact h'
theorem many_l0 {l : List Lib.S36} (hl : l.length ≤ 60) : ∀ (n i : Nat), i + n = l.length → ∃ r, Ev (fun k => Lib.rickyardlaw15_Many.l0 k l (i : Int)) r
  | 0, i, hi => ⟨false, Ev.step (fun _ => by rw [Lib.rickyardlaw15_Many.l0]) (ev_neg (by omega) (ev_now rfl))⟩
  | n + 1, i, hi => by
    by_cases hs : (((Lib.rd_T36 l (i : Int)).f0).length : Int) > 20
    · refine ⟨true, Ev.step (fun _ => by rw [Lib.rickyardlaw15_Many.l0]) ?_⟩
      exact ev_pos (by omega) (ev_pos (by omega) (ev_pos hs (ev_now rfl)))
    · obtain ⟨r, h⟩ := many_l0 hl n (i + 1) (by omega)
      obtain ⟨r', h'⟩ := many_l1 hl (by omega) (by omega) h (Lib.rd_T36 l i).f0.length 0 (by omega)
      rw [show ((0 : Nat) : Int) = 0 from rfl] at h'
      refine ⟨r', Ev.step (fun _ => by rw [Lib.rickyardlaw15_Many.l0]) ?_⟩
      exact ev_pos (by omega) (ev_pos (by omega) (ev_neg hs h'))
theorem few_c {w : World} {A : Option Addr} {c : Nat} {l : List Lib.S36} (h : Kd.C Lib.k36 w A l.length l) (hc : l.length ≤ c) :
    ∃ r, (r = false → l.length ≤ 60) ∧ Calls Try.prog 4 #[.slice A l.length c] w fun e w' => e = .returned (.bool r) ∧ Below w.heap.size w w' := by
  by_cases hl : (l.length : Int) > 60
  · have hf : Lib.rickyardlaw15_Many.f 0 l = some true := by
      unfold Lib.rickyardlaw15_Many.f
      rw [if_pos hl]
    exact ⟨true, (fun e => by cases e), (Lib.rickyardlaw15_Many.calls 0 A c l true w h hc hf).mono fun e w' ⟨he, hd⟩ => ⟨he, hd.below⟩⟩
  · obtain ⟨r, k, hk⟩ := many_l0 (l := l) (by omega) l.length 0 (by omega)
    have hf : Lib.rickyardlaw15_Many.f k l = some r := by
      unfold Lib.rickyardlaw15_Many.f
      rw [if_neg hl]
      exact hk k (Nat.le_refl _)
    exact ⟨r, (fun _ => by omega), (Lib.rickyardlaw15_Many.calls k A c l r w h hc hf).mono fun e w' ⟨he, hd⟩ => ⟨he, hd.below⟩⟩
end Go.Proofs.Ytkpkhggjhpikdaa.Top
