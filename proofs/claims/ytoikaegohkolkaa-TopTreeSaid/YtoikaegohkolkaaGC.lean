/-
  The ladder in plain numbers: what a key becomes at a watermark; once more it stays; no program; conditions: those that each theorem states.
-/
import Derived.Test.YtoikaegohkolkaaPlain
import Derived.Test.YtoikaegohkolkaaGB
namespace Go.Proofs.Ytoikaegohkolkaa.Top
set_option linter.unusedSimpArgs false
set_option linter.unusedVariables false
/-- A step's size, and its age. -/
abbrev Gr := List (Int × Int)
def szG (G : Gr) (i : Nat) : Int := (G.getD i (1, 0)).1
def agG (G : Gr) (i : Nat) : Int := (G.getD i (1, 0)).2
def stOk (G : Gr) (i : Nat) : Bool := decide (1 ≤ szG G i) && (decide (szG G i ≤ 1099511627776) && (decide (agG G i ≤ 1099511627776) && (i == 0 || (decide (szG G (i - 1) < szG G i) && (decide (szG G i % szG G (i - 1) = 0) && decide (agG G (i - 1) ≤ agG G i))))))
def rightR (G : Gr) (keep : Int) : Bool := decide (1 ≤ G.length) && (decide (G.length ≤ 4) && (decide (agG G 0 = 0) && ((List.range G.length).all (stOk G) && (decide (agG G (G.length - 1) ≤ keep) && decide (keep ≤ 2199023255552)))))
def flo (t s : Int) : Int := t - t % s
def condG (G : Gr) (w t : Int) (i : Nat) : Bool := decide (flo t (szG G i) + szG G i ≤ w - agG G i)
/-- From step i on: how far. -/
def stepG (G : Gr) (w t : Int) : Nat → Nat → Nat
  | 0, i => i
  | n + 1, i => if condG G w t (i + 1) then stepG G w t n (i + 1) else i
def stp (G : Gr) (w t : Int) : Nat := stepG G w t (G.length - 1) 0
def goneG (G : Gr) (keep w t : Int) : Bool := decide (flo t (szG G (G.length - 1)) + szG G (G.length - 1) ≤ w - keep)
def grF (G : Gr) (w t : Int) (g : Nat) : Nat := max g (stp G w t)
def frF (G : Gr) (w t : Int) (g : Nat) : Int := flo t (szG G (grF G w t g))
structure RightR (G : Gr) (keep : Int) : Prop where
  l1 : 1 ≤ G.length
  l2 : G.length ≤ 4
  a0 : agG G 0 = 0
  s1 : ∀ i, i < G.length → 1 ≤ szG G i ∧ szG G i ≤ 1099511627776 ∧ agG G i ≤ 1099511627776
  st : ∀ i, i + 1 < G.length → szG G i < szG G (i + 1) ∧ szG G (i + 1) % szG G i = 0 ∧ agG G i ≤ agG G (i + 1)
  k1 : agG G (G.length - 1) ≤ keep
  k2 : keep ≤ 2199023255552
theorem rightR_iff {G : Gr} {keep : Int} (h : rightR G keep = true) : RightR G keep := by
  unfold rightR at h
  simp only [Bool.and_eq_true, decide_eq_true_eq, List.all_eq_true, List.mem_range] at h
  obtain ⟨h1, h2, h3, h4, h5, h6⟩ := h
  refine ⟨h1, h2, h3, fun i hi => ?_, fun i hi => ?_, h5, h6⟩
  · have := h4 i hi
    unfold stOk at this
    simp only [Bool.and_eq_true, decide_eq_true_eq] at this
    exact ⟨this.1, this.2.1, this.2.2.1⟩
  · have := h4 (i + 1) hi
    unfold stOk at this
    simp only [Bool.and_eq_true, decide_eq_true_eq, Bool.or_eq_true, beq_iff_eq, Nat.add_sub_cancel] at this
    obtain ⟨_, _, _, h⟩ := this
    rcases h with h | h
    · omega
    · exact ⟨h.1, h.2.1, h.2.2⟩
theorem RightR.ag {G : Gr} {keep : Int} (h : RightR G keep) : ∀ i, i < G.length → 0 ≤ agG G i
  | 0, _ => by rw [h.a0]; omega
  | i + 1, hi => by have := (h.st i hi).2.2; have := h.ag i (by omega); omega
theorem RightR.dvd {G : Gr} {keep : Int} (h : RightR G keep) : ∀ (d i : Nat), i + d < G.length → szG G i ∣ szG G (i + d)
  | 0, i, _ => Int.dvd_refl _
  | d + 1, i, hi => Int.dvd_trans (h.dvd d i (by omega)) (Int.dvd_of_emod_eq_zero (h.st (i + d) (by omega)).2.1)
theorem RightR.dvd' {G : Gr} {keep : Int} (h : RightR G keep) {i j : Nat} (hij : i ≤ j) (hj : j < G.length) : szG G i ∣ szG G j := by
  have := h.dvd (j - i) i (by omega)
  rwa [show i + (j - i) = j by omega] at this
theorem flo_le {t s : Int} (hs : 1 ≤ s) : flo t s ≤ t := by
  unfold flo
  have := Int.emod_nonneg t (show s ≠ 0 by omega)
  omega
theorem flo_gt {t s : Int} (hs : 1 ≤ s) : t < flo t s + s := by
  unfold flo
  have := Int.emod_lt_of_pos t (show 0 < s by omega)
  omega
theorem flo_eq (t s : Int) : flo t s = s * (t / s) := by unfold flo; have := Int.emod_add_mul_ediv t s; omega
theorem flo_nonneg {t s : Int} (hs : 1 ≤ s) (ht : 0 ≤ t) : 0 ≤ flo t s := by
  rw [flo_eq]
  exact Int.mul_nonneg (by omega) (Int.ediv_nonneg ht (by omega))
theorem flo_mod {t s : Int} : flo t s % s = 0 := by
  rw [flo_eq]
  exact Int.mul_emod_right s _
theorem flo_self {t s : Int} (h : t % s = 0) : flo t s = t := by unfold flo; omega
theorem flo_flo {t a b : Int} (ha : 1 ≤ a) (h : a ∣ b) : flo (flo t a) b = flo t b := by
  obtain ⟨c, rfl⟩ := h
  rw [flo_eq t a, flo_eq _ (a * c), flo_eq t (a * c), Int.mul_ediv_mul_of_pos _ _ (show 0 < a by omega), Int.ediv_ediv_of_nonneg (by omega)]
theorem flo_mono {t u s : Int} (hs : 1 ≤ s) (h : t ≤ u) : flo t s ≤ flo u s := by
  rw [flo_eq, flo_eq]
  exact Int.mul_le_mul_of_nonneg_left (Int.ediv_le_ediv (by omega) h) (by omega)
/-- How far it goes: all the steps up to there are reached, the next one is not. -/
theorem stepG_is (G : Gr) (w t : Int) : ∀ (n i : Nat), i ≤ stepG G w t n i ∧ stepG G w t n i ≤ i + n ∧ (∀ j, i < j → j ≤ stepG G w t n i → condG G w t j = true) ∧ (stepG G w t n i < i + n → condG G w t (stepG G w t n i + 1) = false)
  | 0, i => ⟨Nat.le_refl _, Nat.le_refl _, fun j h1 h2 => by unfold stepG at h2; omega, fun h => by unfold stepG at h; omega⟩
  | n + 1, i => by
    unfold stepG
    cases hc : condG G w t (i + 1) with
    | true =>
      obtain ⟨h1, h2, h3, h4⟩ := stepG_is G w t n (i + 1)
      rw [if_pos rfl]
      refine ⟨by omega, by omega, fun j hj1 hj2 => ?_, fun h => h4 (by omega)⟩
      by_cases e : j = i + 1
      · rw [e]; exact hc
      · exact h3 j (by omega) hj2
    | false =>
      rw [if_neg (by decide)]
      exact ⟨Nat.le_refl _, by omega, fun j h1 h2 => by omega, fun _ => hc⟩
theorem stp_is {G : Gr} (h1 : 1 ≤ G.length) (w t : Int) : stp G w t < G.length ∧ (∀ j, 1 ≤ j → j ≤ stp G w t → condG G w t j = true) ∧ (stp G w t + 1 < G.length → condG G w t (stp G w t + 1) = false) := by
  obtain ⟨_, a2, a3, a4⟩ := stepG_is G w t (G.length - 1) 0
  unfold stp
  exact ⟨by omega, fun j h1 h2 => a3 j (by omega) h2, fun h => a4 (by omega)⟩
theorem grF_lt {G : Gr} (h1 : 1 ≤ G.length) (w t : Int) {g : Nat} (hg : g < G.length) : grF G w t g < G.length := by
  have := (stp_is h1 w t).1
  unfold grF
  omega
theorem frF_le {G : Gr} {keep : Int} (h : RightR G keep) (w : Int) {t : Int} {g : Nat} (hg : g < G.length) (ht : 0 ≤ t) : 0 ≤ frF G w t g ∧ frF G w t g ≤ t := by
  have hs := (h.s1 _ (grF_lt h.l1 w t hg)).1
  exact ⟨flo_nonneg hs ht, flo_le hs⟩
theorem frF_mod {G : Gr} {w t : Int} {g : Nat} : frF G w t g % szG G (grF G w t g) = 0 := flo_mod
/-- What was made coarse is as coarse as it is to be. -/
theorem gr_twice {G : Gr} {keep : Int} (h : RightR G keep) (w : Int) {t : Int} {g : Nat} (hg : g < G.length) (hf : t % szG G g = 0) : grF G w (frF G w t g) (grF G w t g) = grF G w t g := by
  obtain ⟨a1, a2, a3⟩ := stp_is h.l1 w t
  obtain ⟨b1, b2, b3⟩ := stp_is h.l1 w (frF G w t g)
  have hl := grF_lt h.l1 w t hg
  have key : ∀ i, grF G w t g ≤ i → i < G.length → condG G w (frF G w t g) i = condG G w t i := fun i h1 h2 => by
    unfold condG frF
    rw [flo_flo (h.s1 _ hl).1 (h.dvd' h1 h2)]
  by_cases hk : grF G w t g = stp G w t
  · have : stp G w (frF G w t g) ≤ stp G w t := by
      refine Decidable.byContradiction fun hn => ?_
      have h1 := b2 (stp G w t + 1) (by omega) (by omega)
      rw [key _ (by omega) (by omega), a3 (by omega)] at h1
      cases h1
    show max (grF G w t g) (stp G w (frF G w t g)) = _
    omega
  · have hgg : grF G w t g = g := by unfold grF at hk ⊢; omega
    have e : frF G w t g = t := by unfold frF; rw [hgg]; exact flo_self hf
    rw [e, hgg]
    show grF G w t g = g
    exact hgg
theorem fr_twice {G : Gr} {keep : Int} (h : RightR G keep) (w : Int) {t : Int} {g : Nat} (hg : g < G.length) (hf : t % szG G g = 0) : frF G w (frF G w t g) (grF G w t g) = frF G w t g := by
  show flo (frF G w t g) (szG G (grF G w (frF G w t g) (grF G w t g))) = _
  rw [gr_twice h w hg hf]
  exact flo_self frF_mod
theorem gone_twice {G : Gr} {keep : Int} (h : RightR G keep) (w : Int) {t : Int} {g : Nat} (hg : g < G.length) : goneG G keep w (frF G w t g) = goneG G keep w t := by
  have hl := grF_lt h.l1 w t hg
  have h1 := h.l1
  unfold goneG frF
  rw [flo_flo (h.s1 _ hl).1 (h.dvd' (by omega) (by omega))]
end Go.Proofs.Ytoikaegohkolkaa.Top
namespace Go.Proofs.Ytoikaegohkolkaa.Top
set_option linter.unusedSimpArgs false
set_option linter.unusedVariables false
open Go.Proofs.Ytoikaegohkolkaa.Plain
/-- Keys, and what is known of each. -/
abbrev Kv := List (List Int × Ag)
def Srt (l : Kv) : Prop := l.Pairwise fun x y => lts x.1 y.1 = true
theorem lts_tr : ∀ (x y z : List Int), lts x y = true → lts y z = true → lts x z = true
  | [], _, [], _, h => by cases ‹List Int› <;> simp [lts] at h
  | [], _, _ :: _, _, _ => by simp [lts]
  | _ :: _, [], _, h, _ => by simp [lts] at h
  | _ :: _, _ :: _, [], _, h => by simp [lts] at h
  | a :: x, b :: y, c :: z, h, h' => by
    simp [lts] at h h' ⊢
    rcases h with h | ⟨rfl, h⟩ <;> rcases h' with h' | ⟨rfl, h'⟩
    · left; omega
    · left; omega
    · left; omega
    · exact Or.inr ⟨rfl, lts_tr x y z h h'⟩
/-- What is known of a key is laid at its place. -/
def insK : Kv → List Int → Ag → Kv
  | [], k, a => [(k, a)]
  | x :: r, k, a => if lts x.1 k = true then x :: insK r k a else if x.1 = k then (x.1, mergeF x.2 a) :: r else (k, a) :: x :: r
theorem insK_mem : ∀ (l : Kv) (k : List Int) (a : Ag) (x : List Int × Ag), x ∈ insK l k a → x ∈ l ∨ (x.1 = k ∧ (x.2 = a ∨ ∃ y ∈ l, x.2 = mergeF y.2 a))
  | [], k, a, x, h => by simp [insK] at h; subst h; exact .inr ⟨rfl, .inl rfl⟩
  | y :: r, k, a, x, h => by
    unfold insK at h
    split at h
    · rcases List.mem_cons.1 h with rfl | h
      · exact .inl (List.mem_cons_self ..)
      · rcases insK_mem r k a x h with h | ⟨h1, h2 | ⟨z, hz, h2⟩⟩
        · exact .inl (List.mem_cons_of_mem _ h)
        · exact .inr ⟨h1, .inl h2⟩
        · exact .inr ⟨h1, .inr ⟨z, List.mem_cons_of_mem _ hz, h2⟩⟩
    · split at h
      · rename_i he
        rcases List.mem_cons.1 h with rfl | h
        · exact .inr ⟨he, .inr ⟨y, List.mem_cons_self .., rfl⟩⟩
        · exact .inl (List.mem_cons_of_mem _ h)
      · rcases List.mem_cons.1 h with rfl | h
        · exact .inr ⟨rfl, .inl rfl⟩
        · exact .inl h
theorem insK_len : ∀ (l : Kv) (k : List Int) (a : Ag), (insK l k a).length ≤ l.length + 1
  | [], k, a => Nat.le_refl _
  | y :: r, k, a => by
    unfold insK
    split
    · have := insK_len r k a
      simp only [List.length_cons]
      omega
    · split
      · simp only [List.length_cons]; omega
      · simp only [List.length_cons]; omega
theorem insK_srt : ∀ (l : Kv) (k : List Int) (a : Ag), Srt l → Srt (insK l k a)
  | [], k, a, _ => List.pairwise_singleton _ _
  | y :: r, k, a, h => by
    obtain ⟨h1, h2⟩ := List.pairwise_cons.1 h
    unfold insK
    split
    · rename_i hlt
      refine List.pairwise_cons.2 ⟨fun x hx => ?_, insK_srt r k a h2⟩
      rcases insK_mem r k a x hx with hx | ⟨hx, _⟩
      · exact h1 x hx
      · rw [hx]; exact hlt
    · rename_i hlt
      split
      · exact List.pairwise_cons.2 ⟨h1, h2⟩
      · rename_i hne
        have hky : lts k y.1 = true := by
          cases hk : lts k y.1 with
          | true => rfl
          | false => exact absurd (lts_total _ _ (by simpa using hlt) hk) hne
        exact List.pairwise_cons.2 ⟨fun x hx => by
          rcases List.mem_cons.1 hx with rfl | hx
          · exact hky
          · exact lts_tr _ _ _ hky (h1 x hx), h⟩
/-- Behind all that is there. -/
theorem insK_end : ∀ (l : Kv) (k : List Int) (a : Ag), (∀ x ∈ l, lts x.1 k = true) → insK l k a = l ++ [(k, a)]
  | [], k, a, _ => rfl
  | y :: r, k, a, h => by
    unfold insK
    rw [if_pos (h y (List.mem_cons_self ..)), insK_end r k a fun x hx => h x (List.mem_cons_of_mem _ hx)]
    rfl
/-- At what is ahead and what is not. -/
theorem insK_part : ∀ (P S : Kv) (k : List Int) (a : Ag), (∀ x ∈ P, lts x.1 k = true) → (∀ x ∈ S, lts x.1 k = false) → insK (P ++ S) k a = P ++ insK S k a
  | [], S, k, a, _, _ => rfl
  | y :: r, S, k, a, h, h' => by
    show insK (y :: (r ++ S)) k a = _
    rw [insK, if_pos (h y (List.mem_cons_self ..)), insK_part r S k a (fun x hx => h x (List.mem_cons_of_mem _ hx)) h']
    rfl
def stepK (f : List Int → Option (List Int)) (out : Kv) (x : List Int × Ag) : Kv :=
  match f x.1 with
  | none => out
  | some k => insK out k x.2
/-- Entries folded: f tells what a key becomes, or that it is gone. -/
def foldK (f : List Int → Option (List Int)) (l : Kv) : Kv := l.foldl (stepK f) []
theorem stepK_srt {f : List Int → Option (List Int)} {out : Kv} (x : List Int × Ag) (h : Srt out) : Srt (stepK f out x) := by
  unfold stepK
  split
  · exact h
  · exact insK_srt _ _ _ h
theorem foldl_ind {α : Type} (f : List Int → Option (List Int)) (P : Kv → Prop) : ∀ (l : Kv) (out : Kv), (∀ o x, x ∈ l → P o → P (stepK f o x)) → P out → P (l.foldl (stepK f) out)
  | [], out, _, h => h
  | x :: r, out, hs, h => foldl_ind (α := α) f P r _ (fun o y hy ho => hs o y (List.mem_cons_of_mem _ hy) ho) (hs out x (List.mem_cons_self ..) h)
theorem foldK_srt (f : List Int → Option (List Int)) (l : Kv) : Srt (foldK f l) := foldl_ind (α := Unit) f Srt l [] (fun _ x _ h => stepK_srt x h) List.Pairwise.nil
theorem foldl_len (f : List Int → Option (List Int)) : ∀ (l out : Kv), (l.foldl (stepK f) out).length ≤ out.length + l.length
  | [], out => Nat.le_refl _
  | x :: r, out => by
    have h1 := foldl_len f r (stepK f out x)
    have h2 : (stepK f out x).length ≤ out.length + 1 := by
      unfold stepK
      split
      · omega
      · exact insK_len _ _ _
    simp only [List.foldl_cons, List.length_cons]
    omega
theorem foldK_len (f : List Int → Option (List Int)) (l : Kv) : (foldK f l).length ≤ l.length := by
  have := foldl_len f l []
  simpa [foldK] using this
/-- Each one that is told is what an entry became; what is known of it may be. -/
theorem foldK_all {f : List Int → Option (List Int)} {l : Kv} (hg : ∀ x ∈ l, Gd x.2) : ∀ x ∈ foldK f l, Gd x.2 ∧ ∃ y ∈ l, f y.1 = some x.1 := by
  refine foldl_ind (α := Unit) f (fun o => ∀ x ∈ o, Gd x.2 ∧ ∃ y ∈ l, f y.1 = some x.1) l [] (fun o y hy ho x hx => ?_) (fun x hx => by cases hx)
  unfold stepK at hx
  split at hx
  · exact ho x hx
  · rename_i k hk
    rcases insK_mem _ _ _ x hx with hx | ⟨h1, h2⟩
    · exact ho x hx
    · refine ⟨?_, y, hy, by rw [hk, h1]⟩
      rcases h2 with h2 | ⟨z, hz, h2⟩
      · rw [h2]; exact hg y hy
      · rw [h2]; exact (ho z hz).1.merge (hg y hy)
theorem foldl_self {f : List Int → Option (List Int)} : ∀ (l out : Kv), Srt (out ++ l) → (∀ x ∈ l, f x.1 = some x.1) → l.foldl (stepK f) out = out ++ l
  | [], out, _, _ => by simp
  | x :: r, out, hs, hf => by
    have h1 : stepK f out x = out ++ [x] := by
      unfold stepK
      rw [hf x (List.mem_cons_self ..)]
      exact insK_end _ _ _ fun y hy => (List.pairwise_append.1 hs).2.2 y hy x (List.mem_cons_self ..)
    rw [List.foldl_cons, h1, foldl_self r (out ++ [x]) (by simpa using hs) fun y hy => hf y (List.mem_cons_of_mem _ hy)]
    simp
/-- What stays as it is, stays. -/
theorem foldK_self {f : List Int → Option (List Int)} {l : Kv} (hs : Srt l) (hf : ∀ x ∈ l, f x.1 = some x.1) : foldK f l = l := by
  have := foldl_self (f := f) l [] (by simpa using hs) hf
  simpa [foldK] using this
/-- Once more: the same. -/
theorem foldK_twice {f : List Int → Option (List Int)} {l : Kv} (hg : ∀ x ∈ l, Gd x.2) (hf : ∀ x ∈ l, ∀ k, f x.1 = some k → f k = some k) : foldK f (foldK f l) = foldK f l := by
  refine foldK_self (foldK_srt f l) fun x hx => ?_
  obtain ⟨_, y, hy, he⟩ := foldK_all hg x hx
  exact hf y hy _ he
/-- What is left of a row, and its place. -/
abbrev Fr := Kv × Nat
def lessFr (a b : Fr) : Bool :=
  match a.1, b.1 with
  | x :: _, y :: _ => lts x.1 y.1 || (decide (x.1 = y.1) && decide (a.2 < b.2))
  | _, _ => false
def frAt (fs : List Fr) (i : Nat) : Fr := fs.getD i ([], 0)
def least1 (fs : List Fr) (k m : Nat) : Nat := if k < fs.length then (if lessFr (frAt fs k) (frAt fs m) = true then k else m) else m
def least (fs : List Fr) (a : Nat) : Nat := least1 fs (2 * a + 2) (least1 fs (2 * a + 1) a)
def swapL (fs : List Fr) (a m : Nat) : List Fr := (fs.set a (frAt fs m)).set m (frAt fs a)
def sinkF : Nat → List Fr → Nat → List Fr
  | 0, fs, _ => fs
  | n + 1, fs, a => if least fs a = a then fs else sinkF n (swapL fs a (least fs a)) (least fs a)
theorem least1_is (fs : List Fr) (k m : Nat) : least1 fs k m = m ∨ (least1 fs k m = k ∧ k < fs.length) := by
  unfold least1
  split
  · split
    · exact .inr ⟨rfl, by assumption⟩
    · exact .inl rfl
  · exact .inl rfl
theorem least_is (fs : List Fr) (a : Nat) : least fs a = a ∨ (a < least fs a ∧ least fs a < fs.length) := by
  unfold least
  rcases least1_is fs (2 * a + 2) (least1 fs (2 * a + 1) a) with h | ⟨h, h'⟩
  · rw [h]
    rcases least1_is fs (2 * a + 1) a with h | ⟨h, h'⟩
    · exact .inl h
    · rw [h]; exact .inr ⟨by omega, h'⟩
  · rw [h]; exact .inr ⟨by omega, h'⟩
theorem swapL_len (fs : List Fr) (a m : Nat) : (swapL fs a m).length = fs.length := by simp [swapL]
theorem sinkF_len : ∀ (n : Nat) (fs : List Fr) (a : Nat), (sinkF n fs a).length = fs.length
  | 0, fs, a => rfl
  | n + 1, fs, a => by
    unfold sinkF
    split
    · rfl
    · rw [sinkF_len n, swapL_len]
theorem frAt_eq {fs : List Fr} {i : Nat} (h : i < fs.length) : frAt fs i = fs[i] := by
  unfold frAt
  rw [List.getD_eq_getElem?_getD, List.getElem?_eq_getElem h]
  rfl
/-- A swap keeps whatever is reckoned element by element. -/
theorem swapL_mem {fs : List Fr} {a m : Nat} (ha : a < fs.length) (hm : m < fs.length) : ∀ x ∈ swapL fs a m, x ∈ fs := fun x hx => by
  unfold swapL at hx
  rcases List.mem_or_eq_of_mem_set hx with hx | rfl
  · rcases List.mem_or_eq_of_mem_set hx with hx | rfl
    · exact hx
    · rw [frAt_eq hm]; exact List.getElem_mem hm
  · rw [frAt_eq ha]; exact List.getElem_mem ha
def sizes (fs : List Fr) : Nat := (fs.map fun f => f.1.length).sum
theorem sum_set : ∀ (l : List Nat) (i v : Nat) (h : i < l.length), (l.set i v).sum + l[i] = l.sum + v
  | x :: l, 0, v, _ => by simp; omega
  | x :: l, i + 1, v, h => by
    have := sum_set l i v (by simpa using h)
    simp only [List.set_cons_succ, List.sum_cons, List.getElem_cons_succ]
    omega
theorem sizes_set (fs : List Fr) (i : Nat) (f : Fr) (h : i < fs.length) : sizes (fs.set i f) + fs[i].1.length = sizes fs + f.1.length := by
  unfold sizes
  rw [List.map_set]
  have := sum_set (fs.map fun f => f.1.length) i f.1.length (by simpa using h)
  simpa using this
theorem swapL_sizes {fs : List Fr} {a m : Nat} (ha : a < fs.length) (hm : m < fs.length) (hne : a ≠ m) : sizes (swapL fs a m) = sizes fs := by
  unfold swapL
  have h1 := sizes_set fs a (frAt fs m) ha
  have h2 := sizes_set (fs.set a (frAt fs m)) m (frAt fs a) (by simpa using hm)
  rw [List.getElem_set_ne hne] at h2
  rw [frAt_eq hm] at h1
  rw [frAt_eq ha] at h2
  rw [frAt_eq hm, frAt_eq ha] at *
  omega
theorem sinkF_keep {P : List Fr → Prop} (hP : ∀ fs a m, a < m → m < fs.length → P fs → P (swapL fs a m)) : ∀ (n : Nat) (fs : List Fr) (a : Nat), P fs → P (sinkF n fs a)
  | 0, fs, a, h => h
  | n + 1, fs, a, h => by
    unfold sinkF
    split
    · exact h
    · rename_i hne
      rcases least_is fs a with he | ⟨h1, h2⟩
      · exact absurd he hne
      · exact sinkF_keep hP n _ _ (hP _ _ _ h1 h2 h)
theorem sinkF_sizes (n : Nat) (fs : List Fr) (a : Nat) : sizes (sinkF n fs a) = sizes fs :=
  sinkF_keep (P := fun x => sizes x = sizes fs) (fun gs a m h1 h2 h => by rw [swapL_sizes (by omega) h2 (by omega)]; exact h) n fs a rfl
theorem sinkF_mem (n : Nat) (fs : List Fr) (a : Nat) : ∀ x ∈ sinkF n fs a, x ∈ fs :=
  sinkF_keep (P := fun x => ∀ y ∈ x, y ∈ fs) (fun gs a m h1 h2 h y hy => h y (swapL_mem (by omega) h2 y hy)) n fs a fun _ h => h
/-- More rounds than there are fronts change nothing. -/
theorem sinkF_more : ∀ (n : Nat) (fs : List Fr) (a : Nat), fs.length - a ≤ n → sinkF (n + 1) fs a = sinkF n fs a
  | 0, fs, a, h => by
    unfold sinkF
    rcases least_is fs a with he | ⟨h1, h2⟩
    · rw [if_pos he]
    · omega
  | n + 1, fs, a, h => by
    rw [sinkF]
    conv => rhs; rw [sinkF]
    split
    · rfl
    · rename_i hne
      rcases least_is fs a with he | ⟨h1, h2⟩
      · exact absurd he hne
      · exact sinkF_more n _ _ (by rw [swapL_len]; omega)
def snk (fs : List Fr) (a : Nat) : List Fr := sinkF fs.length fs a
theorem sinkF_any {n : Nat} {fs : List Fr} {a : Nat} (h : fs.length - a ≤ n) : ∀ d, sinkF (n + d) fs a = sinkF n fs a
  | 0 => rfl
  | d + 1 => by rw [← Nat.add_assoc, sinkF_more _ _ _ (by omega), sinkF_any h d]
theorem snk_eq (fs : List Fr) (a : Nat) : snk fs a = if least fs a = a then fs else snk (swapL fs a (least fs a)) (least fs a) := by
  unfold snk
  have h := sinkF_any (n := fs.length) (fs := fs) (a := a) (by omega) 1
  rw [← h, sinkF]
  split
  · rfl
  · rw [swapL_len]
theorem snk_len (fs : List Fr) (a : Nat) : (snk fs a).length = fs.length := sinkF_len _ _ _
theorem snk_sizes (fs : List Fr) (a : Nat) : sizes (snk fs a) = sizes fs := sinkF_sizes _ _ _
theorem snk_mem (fs : List Fr) (a : Nat) : ∀ x ∈ snk fs a, x ∈ fs := sinkF_mem _ _ _
/-- What is left of the fronts when the first one's first entry is taken. -/
def popL (fs : List Fr) : List Fr :=
  match fs with
  | [] => []
  | (x, p) :: t => if 1 < x.length then (x.tail, p) :: t else (((x, p) :: t).set 0 (frAt ((x, p) :: t) t.length)).take t.length
theorem popL_len (fs : List Fr) : (popL fs).length ≤ fs.length := by
  unfold popL
  split
  · exact Nat.le_refl _
  · split <;> simp
theorem popL_mem {fs : List Fr} : ∀ y ∈ popL fs, y ∈ fs ∨ ∃ x, x ∈ fs ∧ y = (x.1.tail, x.2) := fun y hy => by
  unfold popL at hy
  split at hy
  · cases hy
  · rename_i x p t
    split at hy
    · rcases List.mem_cons.1 hy with rfl | hy
      · exact .inr ⟨_, List.mem_cons_self .., rfl⟩
      · exact .inl (List.mem_cons_of_mem _ hy)
    · have hy := List.mem_of_mem_take hy
      rcases List.mem_or_eq_of_mem_set hy with hy | rfl
      · exact .inl hy
      · rw [frAt_eq (by simp)]
        exact .inl (List.getElem_mem _)
theorem sum_take_set : ∀ (t : List Nat) (x : Nat), (((x :: t).set 0 ((x :: t).getD t.length 0)).take t.length).sum = t.sum := by
  intro t
  induction t with
  | nil => intro x; rfl
  | cons y t ih =>
    intro x
    have h := ih y
    simp only [List.set_cons_zero, List.length_cons, List.take_succ_cons, List.sum_cons] at h ⊢
    rw [List.getD_cons_succ]
    cases t with
    | nil => simp
    | cons z t =>
      simp only [List.length_cons, List.getD_cons_succ, List.take_succ_cons, List.sum_cons] at h ⊢
      omega
theorem popL_sizes {x : Kv} {p : Nat} {t : List Fr} (hx : x ≠ []) : sizes (popL ((x, p) :: t)) + 1 = sizes ((x, p) :: t) := by
  have hl : 1 ≤ x.length := List.length_pos_iff.2 hx
  unfold popL
  simp only
  split
  · unfold sizes
    simp only [List.map_cons, List.sum_cons, List.length_tail]
    omega
  · have h1 : x.length = 1 := by omega
    unfold sizes
    rw [List.map_take, List.map_set]
    have h := sum_take_set (t.map fun f => f.1.length) x.length
    have e : ((frAt ((x, p) :: t) t.length).1.length) = (x.length :: t.map fun f => f.1.length).getD (t.map fun f => f.1.length).length 0 := by
      unfold frAt
      rw [List.getD_eq_getElem?_getD, List.getD_eq_getElem?_getD]
      rw [show (x.length :: t.map fun f => f.1.length) = ((x, p) :: t).map fun f => f.1.length from rfl, List.getElem?_map, List.length_map]
      cases h : ((x, p) :: t)[t.length]? with
      | none => rfl
      | some y => rfl
    rw [e]
    simp only [List.map_cons, List.length_map, List.sum_cons] at h ⊢
    rw [h]
    omega
/-- One more entry, the last one's where it has the same key. -/
def addK (out : Kv) (x : List Int × Ag) : Kv :=
  match out.getLast? with
  | none => out ++ [x]
  | some y => if y.1 = x.1 then out.dropLast ++ [(y.1, mergeF y.2 x.2)] else out ++ [x]
theorem addK_len (out : Kv) (x : List Int × Ag) : (addK out x).length ≤ out.length + 1 := by
  unfold addK
  split
  · simp
  · split
    · simp only [List.length_append, List.length_dropLast, List.length_cons, List.length_nil]; omega
    · simp
theorem addK_mem {out : Kv} {x : List Int × Ag} : ∀ y ∈ addK out x, y ∈ out ∨ (y.1 = x.1 ∧ (y.2 = x.2 ∨ ∃ z ∈ out, y.2 = mergeF z.2 x.2)) := fun y hy => by
  unfold addK at hy
  split at hy
  · rcases List.mem_append.1 hy with hy | hy
    · exact .inl hy
    · simp at hy; subst hy; exact .inr ⟨rfl, .inl rfl⟩
  · rename_i z hz
    have hz' : z ∈ out := List.mem_of_getLast? hz
    split at hy
    · rename_i he
      rcases List.mem_append.1 hy with hy | hy
      · exact .inl (List.dropLast_subset _ hy)
      · simp at hy; subst hy; exact .inr ⟨he, .inr ⟨z, hz', rfl⟩⟩
    · rcases List.mem_append.1 hy with hy | hy
      · exact .inl hy
      · simp at hy; subst hy; exact .inr ⟨rfl, .inl rfl⟩
def hdF (fs : List Fr) : List Int × Ag := (frAt fs 0).1.headD ([], ⟨0, false, 0, 0, 0, 0⟩)
/-- All that is in the fronts, one entry by one. -/
def allL : Nat → List Fr → Kv → Kv
  | 0, _, out => out
  | n + 1, fs, out => if fs = [] then out else allL n (snk (popL fs) 0) (addK out (hdF fs))
def heapF : Nat → List Fr → List Fr
  | 0, fs => snk fs 0
  | i + 1, fs => heapF i (snk fs (i + 1))
def frontsF : List Kv → Nat → List Fr
  | [], _ => []
  | r :: t, i => if r = [] then frontsF t (i + 1) else (r, i) :: frontsF t (i + 1)
def newF (rows : List Kv) : List Fr := heapF ((frontsF rows 0).length / 2) (frontsF rows 0)
def allF (rows : List Kv) : Kv := allL (sizes (newF rows)) (newF rows) []
theorem heapF_keep {P : List Fr → Prop} (hP : ∀ fs a, P fs → P (snk fs a)) : ∀ (i : Nat) (fs : List Fr), P fs → P (heapF i fs)
  | 0, fs, h => hP fs 0 h
  | i + 1, fs, h => heapF_keep hP i _ (hP fs (i + 1) h)
theorem heapF_sizes (i : Nat) (fs : List Fr) : sizes (heapF i fs) = sizes fs := heapF_keep (P := fun x => sizes x = sizes fs) (fun gs a h => by rw [snk_sizes]; exact h) i fs rfl
theorem heapF_mem (i : Nat) (fs : List Fr) : ∀ x ∈ heapF i fs, x ∈ fs := heapF_keep (P := fun x => ∀ y ∈ x, y ∈ fs) (fun gs a h y hy => h y (snk_mem _ _ y hy)) i fs fun _ h => h
theorem fronts_sizes : ∀ (rows : List Kv) (i : Nat), sizes (frontsF rows i) = (rows.map List.length).sum
  | [], _ => rfl
  | r :: t, i => by
    unfold frontsF
    split
    · rename_i h
      subst h
      simp [fronts_sizes t (i + 1)]
    · have := fronts_sizes t (i + 1)
      unfold sizes at this ⊢
      simp [this]
theorem fronts_mem : ∀ (rows : List Kv) (i : Nat), ∀ x ∈ frontsF rows i, x.1 ∈ rows ∧ x.1 ≠ []
  | [], _, x, h => by cases h
  | r :: t, i, x, h => by
    unfold frontsF at h
    split at h
    · have := fronts_mem t (i + 1) x h
      exact ⟨List.mem_cons_of_mem _ this.1, this.2⟩
    · rename_i hne
      rcases List.mem_cons.1 h with rfl | h
      · exact ⟨List.mem_cons_self .., hne⟩
      · have := fronts_mem t (i + 1) x h
        exact ⟨List.mem_cons_of_mem _ this.1, this.2⟩
theorem new_sizes (rows : List Kv) : sizes (newF rows) = (rows.map List.length).sum := by unfold newF; rw [heapF_sizes, fronts_sizes]
theorem new_mem (rows : List Kv) : ∀ x ∈ newF rows, x.1 ∈ rows ∧ x.1 ≠ [] := fun x h => fronts_mem rows 0 x (heapF_mem _ _ x h)
theorem allL_len : ∀ (n : Nat) (fs : List Fr) (out : Kv), (allL n fs out).length ≤ out.length + n
  | 0, fs, out => Nat.le_refl _
  | n + 1, fs, out => by
    unfold allL
    split
    · omega
    · have h1 := allL_len n (snk (popL fs) 0) (addK out (hdF fs))
      have h2 := addK_len out (hdF fs)
      omega
theorem allF_len (rows : List Kv) : (allF rows).length ≤ (rows.map List.length).sum := by
  have := allL_len (sizes (newF rows)) (newF rows) []
  rw [new_sizes] at this
  unfold allF
  rw [new_sizes]
  simpa using this
/-- Fronts whose entries are all of one kind, none of them empty. -/
def FrOk (Q : List Int × Ag → Prop) (fs : List Fr) : Prop := ∀ f ∈ fs, f.1 ≠ [] ∧ ∀ x ∈ f.1, Q x
theorem popL_ok {Q : List Int × Ag → Prop} {fs : List Fr} (h : FrOk Q fs) : FrOk Q (popL fs) := by
  cases fs with
  | nil => exact h
  | cons f t =>
    obtain ⟨x, p⟩ := f
    intro y hy
    unfold popL at hy
    simp only at hy
    split at hy
    · rcases List.mem_cons.1 hy with rfl | hy
      · refine ⟨fun he => ?_, fun z hz => (h _ (List.mem_cons_self ..)).2 z (List.mem_of_mem_tail hz)⟩
        have := congrArg List.length he
        simp at this
        omega
      · exact h y (List.mem_cons_of_mem _ hy)
    · have hy := List.mem_of_mem_take hy
      rcases List.mem_or_eq_of_mem_set hy with hy | rfl
      · exact h y hy
      · rw [frAt_eq (by simp)]
        exact h _ (List.getElem_mem _)
theorem snk_ok {Q : List Int × Ag → Prop} {fs : List Fr} (h : FrOk Q fs) (a : Nat) : FrOk Q (snk fs a) := fun f hf => h f (snk_mem _ _ f hf)
theorem hdF_mem {Q : List Int × Ag → Prop} {fs : List Fr} (h : FrOk Q fs) (hne : fs ≠ []) : Q (hdF fs) := by
  cases fs with
  | nil => exact absurd rfl hne
  | cons f t =>
    have h1 := h f (List.mem_cons_self ..)
    obtain ⟨x, p⟩ := f
    cases x with
    | nil => exact absurd rfl h1.1
    | cons y r => exact h1.2 y (List.mem_cons_self ..)
theorem allL_all {Q : List Int → Prop} : ∀ (n : Nat) (fs : List Fr) (out : Kv), FrOk (fun x => Q x.1 ∧ Gd x.2) fs → (∀ x ∈ out, Q x.1 ∧ Gd x.2) → ∀ x ∈ allL n fs out, Q x.1 ∧ Gd x.2
  | 0, fs, out, _, ho, x, hx => ho x hx
  | n + 1, fs, out, hf, ho, x, hx => by
    unfold allL at hx
    split at hx
    · exact ho x hx
    · rename_i hne
      refine allL_all n _ _ (snk_ok (popL_ok hf) 0) (fun y hy => ?_) x hx
      have hh := hdF_mem hf hne
      rcases addK_mem y hy with hy | ⟨h1, h2 | ⟨z, hz, h2⟩⟩
      · exact ho y hy
      · rw [h1, h2]; exact hh
      · rw [h1, h2]; exact ⟨hh.1, (ho z hz).2.merge hh.2⟩
/-- What comes of rows is of their keys, and may be known. -/
theorem allF_all {Q : List Int → Prop} {rows : List Kv} (h : ∀ r ∈ rows, ∀ x ∈ r, Q x.1 ∧ Gd x.2) : ∀ x ∈ allF rows, Q x.1 ∧ Gd x.2 :=
  allL_all _ _ _ (fun f hf => ⟨(new_mem rows f hf).2, fun x hx => h _ (new_mem rows f hf).1 x hx⟩) fun x hx => by cases hx
theorem snk_one (f : Fr) : snk [f] 0 = [f] := rfl
theorem snk_none : snk [] 0 = [] := rfl
theorem allL_one : ∀ (F out : Kv) (p : Nat), Srt (out ++ F) → allL F.length (if F = [] then [] else [(F, p)]) out = out ++ F
  | [], out, p, _ => by simp [allL]
  | x :: F, out, p, hs => by
    rw [if_neg (List.cons_ne_nil _ _)]
    show allL (F.length + 1) _ _ = _
    rw [allL, if_neg (List.cons_ne_nil _ _)]
    have h1 : snk (popL [((x :: F), p)]) 0 = if F = [] then [] else [(F, p)] := by
      cases F with
      | nil => rfl
      | cons y F => rfl
    have h2 : addK out (hdF [((x :: F), p)]) = out ++ [x] := by
      show addK out x = _
      unfold addK
      split
      · rfl
      · rename_i y hy
        have hl := (List.pairwise_append.1 hs).2.2 y (List.mem_of_getLast? hy) x (List.mem_cons_self ..)
        rw [if_neg]
        intro e
        rw [e, lts_irrefl] at hl
        cases hl
    rw [h1, h2, allL_one F (out ++ [x]) p (by simpa using hs)]
    simp
/-- One row in order: itself. -/
theorem allF_one {F : Kv} (hs : Srt F) : allF [F] = F := by
  have h : newF [F] = if F = [] then [] else [(F, 0)] := by
    unfold newF frontsF
    split
    · rfl
    · unfold frontsF
      rw [show [((F, 0) : Fr)].length / 2 = 0 by simp]
      unfold heapF snk
      rw [show [((F, 0) : Fr)].length = 1 by simp]
      unfold sinkF
      rw [if_pos]
      rcases least_is [((F, 0) : Fr)] 0 with h | ⟨h1, h2⟩
      · exact h
      · simp at h2
        omega
  unfold allF
  rw [new_sizes, h]
  have := allL_one F [] 0 (by simpa using hs)
  simpa using this
theorem allF_nil : allF [] = [] := rfl
end Go.Proofs.Ytoikaegohkolkaa.Top
