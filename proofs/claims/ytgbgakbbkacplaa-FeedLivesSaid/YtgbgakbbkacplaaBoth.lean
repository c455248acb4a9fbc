/-
  The feed and the reference's feed side by side: what a call does to both; conditions: those that each theorem states.
-/
import Derived.Test.YtgbgakbbkacplaaRefC
namespace Go.Proofs.Ytgbgakbbkacplaa.Feed
set_option linter.unusedSimpArgs false
set_option linter.unusedVariables false
open Go.Conc Go.RowKit Go.Proofs.YtgbgakbbkacplaaW.PrintWords
/-- What Put comes to. -/
def PutR (n : Nat) (us os : List Int) (cl u : Bool) (v r : Int) (us' os' : List Int) : Prop :=
  (cl = true ∧ r = 113 ∧ us' = us ∧ os' = os) ∨ (cl = false ∧ u = true ∧ us.length < n ∧ r = 0 ∧ us' = us ++ [v] ∧ os' = os) ∨ (cl = false ∧ u = true ∧ n ≤ us.length ∧ r = 5 ∧ us' = us ∧ os' = os) ∨
  (cl = false ∧ u = false ∧ os.length < n ∧ r = 0 ∧ us' = us ∧ os' = os ++ [v]) ∨ (cl = false ∧ u = false ∧ n ≤ os.length ∧ r = 5 ∧ us' = us ∧ os' = os)
theorem putR (n : Nat) (us os : List Int) (cl u : Bool) (v : Int) : ∃ r us' os', PutR n us os cl u v r us' os' := by
  cases cl
  · cases u
    · by_cases h : os.length < n
      · exact ⟨_, _, _, .inr (.inr (.inr (.inl ⟨rfl, rfl, h, rfl, rfl, rfl⟩)))⟩
      · exact ⟨_, _, _, .inr (.inr (.inr (.inr ⟨rfl, rfl, by omega, rfl, rfl, rfl⟩)))⟩
    · by_cases h : us.length < n
      · exact ⟨_, _, _, .inr (.inl ⟨rfl, rfl, h, rfl, rfl, rfl⟩)⟩
      · exact ⟨_, _, _, .inr (.inr (.inl ⟨rfl, rfl, by omega, rfl, rfl, rfl⟩))⟩
  · exact ⟨_, _, _, .inl ⟨rfl, rfl, rfl, rfl⟩⟩
theorem PutR.len {n : Nat} {us os us' os' : List Int} {cl u : Bool} {v r : Int} (h : PutR n us os cl u v r us' os') (h1 : us.length ≤ n) (h2 : os.length ≤ n) : us'.length ≤ n ∧ os'.length ≤ n := by
  rcases h with ⟨_, _, rfl, rfl⟩ | ⟨_, _, h, _, rfl, rfl⟩ | ⟨_, _, _, _, rfl, rfl⟩ | ⟨_, _, h, _, rfl, rfl⟩ | ⟨_, _, _, _, rfl, rfl⟩
  · exact ⟨h1, h2⟩
  · exact ⟨by simp; omega, h2⟩
  · exact ⟨h1, h2⟩
  · exact ⟨h1, by simp; omega⟩
  · exact ⟨h1, h2⟩
theorem feed_put {w : World} {b c1 c2 n : Nat} {us os us' os' : List Int} {cl u : Bool} {v r : Int} (h : Fd w b c1 c2 n us os cl) (hP : PutR n us os cl u v r us' os') :
    Calls Try.prog 10 #[.pointer (some ⟨b, 0, none⟩), .int .i64 v, .bool u] w fun e w' => e = .returned (.int .i64 r) ∧ Fd w' b c1 c2 n us' os' cl ∧ Fr b c1 c2 w w' := by
  rcases hP with ⟨rfl, rfl, rfl, rfl⟩ | ⟨rfl, rfl, hr, rfl, rfl, rfl⟩ | ⟨rfl, rfl, hr, rfl, rfl, rfl⟩ | ⟨rfl, rfl, hr, rfl, rfl, rfl⟩ | ⟨rfl, rfl, hr, rfl, rfl, rfl⟩
  · exact (put_closed v h u).mono fun e w' ⟨he, hw⟩ => ⟨he, hw ▸ h, hw ▸ Fr.refl w⟩
  · exact put_urgent v h hr
  · exact (put_urgent_full v h hr).mono fun e w' ⟨he, hw⟩ => ⟨he, hw ▸ h, hw ▸ Fr.refl w⟩
  · exact put_other v h hr
  · exact (put_other_full v h hr).mono fun e w' ⟨he, hw⟩ => ⟨he, hw ▸ h, hw ▸ Fr.refl w⟩
theorem ref_put {w w0 : World} {base x n : Nat} {us os us' os' : List Int} {cl u : Bool} {v r : Int} (h : Rf w base x n us os cl) (hB : Below base w0 w) (hn : n ≤ 64) (h1 : us.length ≤ n) (h2 : os.length ≤ n) (hP : PutR n us os cl u v r us' os') :
    Calls Try.prog 15 #[.pointer (some ⟨x, 0, none⟩), .int .i64 v, .bool u] w fun e w' => e = .returned (.int .i64 r) ∧ Rf w' base x n us' os' cl ∧ Below base w0 w' ∧ Gr x w w' := by
  rcases hP with ⟨rfl, rfl, rfl, rfl⟩ | ⟨rfl, rfl, hr, rfl, rfl, rfl⟩ | ⟨rfl, rfl, hr, rfl, rfl, rfl⟩ | ⟨rfl, rfl, hr, rfl, rfl, rfl⟩ | ⟨rfl, rfl, hr, rfl, rfl, rfl⟩
  · exact ref_put_closed v u h hB
  · exact ref_put_urgent v h hB hr hn
  · exact ref_put_urgent_full v h hB hr (by omega)
  · exact ref_put_other v h hB hr hn
  · exact ref_put_other_full v h hB hr (by omega)
/-- What Take comes to. -/
def TakeR (us os : List Int) (a : Int) (d : Bool) (r : Int) (us' os' : List Int) : Prop :=
  (us = a :: us' ∧ d = true ∧ r = 0 ∧ os' = os) ∨ (us = [] ∧ us' = [] ∧ os = a :: os' ∧ d = false ∧ r = 0) ∨ (us = [] ∧ os = [] ∧ us' = [] ∧ os' = [] ∧ a = 0 ∧ d = false ∧ r = 4)
theorem takeR (us os : List Int) : ∃ a d r us' os', TakeR us os a d r us' os' := by
  cases us with
  | cons v us => exact ⟨_, _, _, _, _, .inl ⟨rfl, rfl, rfl, rfl⟩⟩
  | nil =>
    cases os with
    | cons v os => exact ⟨_, _, _, _, _, .inr (.inl ⟨rfl, rfl, rfl, rfl, rfl⟩)⟩
    | nil => exact ⟨_, _, _, _, _, .inr (.inr ⟨rfl, rfl, rfl, rfl, rfl, rfl, rfl⟩)⟩
theorem TakeR.len {n : Nat} {us os us' os' : List Int} {a r : Int} {d : Bool} (h : TakeR us os a d r us' os') (h1 : us.length ≤ n) (h2 : os.length ≤ n) : us'.length ≤ n ∧ os'.length ≤ n := by
  rcases h with ⟨rfl, _, _, rfl⟩ | ⟨rfl, rfl, rfl, _⟩ | ⟨_, _, rfl, rfl, _⟩
  · exact ⟨by simp at h1; omega, h2⟩
  · exact ⟨by simp, by simp at h2; omega⟩
  · exact ⟨by simp, by simp⟩
theorem feed_take {w : World} {b c1 c2 n : Nat} {us os us' os' : List Int} {cl d : Bool} {a r : Int} (h : Fd w b c1 c2 n us os cl) (hT : TakeR us os a d r us' os') :
    Calls Try.prog 11 #[.pointer (some ⟨b, 0, none⟩)] w fun e w' => e = .returned (.tuple #[.int .i64 a, .bool d, .int .i64 r]) ∧ Fd w' b c1 c2 n us' os' cl ∧ Fr b c1 c2 w w' := by
  rcases hT with ⟨rfl, rfl, rfl, rfl⟩ | ⟨rfl, rfl, rfl, rfl, rfl⟩ | ⟨rfl, rfl, rfl, rfl, rfl, rfl, rfl⟩
  · exact take_urgent h
  · exact take_other h
  · exact (take_none h).mono fun e w' ⟨he, hw⟩ => ⟨he, hw ▸ h, hw ▸ Fr.refl w⟩
theorem ref_take {w w0 : World} {base x n : Nat} {us os us' os' : List Int} {cl d : Bool} {a r : Int} (h : Rf w base x n us os cl) (hB : Below base w0 w) (hn : n ≤ 64) (h1 : us.length ≤ n) (h2 : os.length ≤ n) (hT : TakeR us os a d r us' os') :
    Calls Try.prog 16 #[.pointer (some ⟨x, 0, none⟩)] w fun e w' => e = .returned (.tuple #[.int .i64 a, .bool d, .int .i64 r]) ∧ Rf w' base x n us' os' cl ∧ Below base w0 w' ∧ Gr x w w' := by
  rcases hT with ⟨rfl, rfl, rfl, rfl⟩ | ⟨rfl, rfl, rfl, rfl, rfl⟩ | ⟨rfl, rfl, rfl, rfl, rfl, rfl, rfl⟩
  · exact ref_take_urgent h hB (by simp at h1; omega)
  · exact ref_take_other (us := []) h hB (by simp at h2; omega)
  · exact ref_take_none h hB
/-- What Close comes to. -/
def CloseR (cl : Bool) (r : Int) : Prop := (cl = true ∧ r = 113) ∨ (cl = false ∧ r = 0)
theorem closeR (cl : Bool) : ∃ r, CloseR cl r := by
  cases cl
  · exact ⟨_, .inr ⟨rfl, rfl⟩⟩
  · exact ⟨_, .inl ⟨rfl, rfl⟩⟩
theorem feed_close {w : World} {b c1 c2 n : Nat} {us os : List Int} {cl : Bool} {r : Int} (h : Fd w b c1 c2 n us os cl) (hC : CloseR cl r) :
    Calls Try.prog 13 #[.pointer (some ⟨b, 0, none⟩)] w fun e w' => e = .returned (.int .i64 r) ∧ Fd w' b c1 c2 n us os true ∧ Fr b c1 c2 w w' := by
  rcases hC with ⟨rfl, rfl⟩ | ⟨rfl, rfl⟩
  · exact (close_closed h).mono fun e w' ⟨he, hw⟩ => ⟨he, hw ▸ h, hw ▸ Fr.refl w⟩
  · exact close_open h
theorem ref_close {w w0 : World} {base x n : Nat} {us os : List Int} {cl : Bool} {r : Int} (h : Rf w base x n us os cl) (hB : Below base w0 w) (hC : CloseR cl r) :
    Calls Try.prog 17 #[.pointer (some ⟨x, 0, none⟩)] w fun e w' => e = .returned (.int .i64 r) ∧ Rf w' base x n us os true ∧ Below base w0 w' ∧ Gr x w w' := by
  rcases hC with ⟨rfl, rfl⟩ | ⟨rfl, rfl⟩
  · exact ref_close_closed h hB
  · exact ref_close_open h hB
/-- Both feeds, and the call that is being made: p, q: has it been made of the feed, of the reference's feed. -/
structure J (w0 : World) (base b c1 c2 x n gp : Nat) (k kv : Int) (ku : Bool) (us os us' os' : List Int) (cl : Bool) (p q : Bool) (w : World) : Prop where
  fd : Fd w b c1 c2 n (bif p then us' else us) (bif p then os' else os) cl
  rf : Rf w base x n (bif q then us' else us) (bif q then os' else os) cl
  be : Below base w0 w
  bl : w.heap[gp]? = some (.cells #[.int .i64 k, .int .i64 kv, .bool ku] 31 (0, 0))
  hb : base ≤ b
  hc1 : base ≤ c1
  hc2 : base ≤ c2
section
variable {w0 w : World} {base b c1 c2 x n gp : Nat} {k kv r : Int} {ku : Bool} {us os us' os' : List Int} {cl p q : Bool}
theorem J.drew (h : J w0 base b c1 c2 x n gp k kv ku us os us' os' cl p q w) : J w0 base b c1 c2 x n gp k kv ku us os us' os' cl p q w.drew :=
  ⟨⟨h.fd.blk, h.fd.u, h.fd.o, h.fd.ne⟩, h.rf.drew, below_drew h.be, h.bl, h.hb, h.hc1, h.hc2⟩
theorem J.cells (h : J w0 base b c1 c2 x n gp k kv ku us os us' os' cl p q w) : w.cell? ⟨gp, 1, none⟩ = some (.int .i64 kv) ∧ w.cell? ⟨gp, 2, none⟩ = some (.bool ku) :=
  ⟨(blk_cell h.bl 1).trans rfl, (blk_cell h.bl 2).trans rfl⟩
theorem J.feed (h : J w0 base b c1 c2 x n gp k kv ku us os us' os' cl false q w) (hP : PutR n us os cl ku kv r us' os') :
    Calls Try.prog 10 #[.pointer (some ⟨b, 0, none⟩), .int .i64 kv, .bool ku] w fun e w' => e = .returned (.int .i64 r) ∧ J w0 base b c1 c2 x n gp k kv ku us os us' os' cl true q w' :=
  (feed_put h.fd hP).mono fun e w' ⟨he, hF, hR⟩ => ⟨he, hF, h.rf.feed h.fd hR, hR.below _ _ h.hb h.hc1 h.hc2 h.be, by
    have hbl := h.bl
    obtain ⟨_, _, hu⟩ := h.fd.u
    obtain ⟨_, _, ho⟩ := h.fd.o
    refine (hR.other gp ?_ ?_ ?_).trans h.bl
    · rintro rfl
      have := h.fd.blk
      rw [hbl] at this
      simp at this
    · rintro rfl
      rw [hbl] at hu
      simp at hu
    · rintro rfl
      rw [hbl] at ho
      simp at ho, h.hb, h.hc1, h.hc2⟩
theorem J.ref (h : J w0 base b c1 c2 x n gp k kv ku us os us' os' cl p false w) (hn : n ≤ 64) (h1 : us.length ≤ n) (h2 : os.length ≤ n) (hP : PutR n us os cl ku kv r us' os') :
    Calls Try.prog 15 #[.pointer (some ⟨x, 0, none⟩), .int .i64 kv, .bool ku] w fun e w' => e = .returned (.int .i64 r) ∧ J w0 base b c1 c2 x n gp k kv ku us os us' os' cl p true w' :=
  (ref_put h.rf h.be hn h1 h2 hP).mono fun e w' ⟨he, hF, hB, hR⟩ => ⟨he, hR.fd h.rf h.fd, hF, hB, by
    refine hR _ _ h.bl ?_ (fun cs e => by simp at e)
    rintro rfl
    obtain ⟨v1, v2, hV⟩ := h.rf
    have := hV.blk
    rw [h.bl] at this
    simp at this, h.hb, h.hc1, h.hc2⟩
end
end Go.Proofs.Ytgbgakbbkacplaa.Feed
