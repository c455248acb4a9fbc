/-
  Contracts of bytes.Compare, bytes.Equal and slices.Clone at rows of bytes; conditions: those that each theorem states.
-/
import Derived.Test.YtkpkhggjhpikdaaLib2
import Derived.Test.YtkpkhggjhpikdaaPlain
import Derived.Laws.Externs
import Derived.Lib.BytesEntry
import Derived.Lib.LazyBuf
import Derived.Maps.AppendAt
namespace Go.Proofs.Ytkpkhggjhpikdaa.Top
set_option linter.unusedSimpArgs false
set_option linter.unusedVariables false
open Go.RowKit Go.Proofs.YtkpkhggjhpikdaaW.PrintWords Go.Proofs.YtkpkhggjhpikdaaW.PrintLast Go.Proofs.YtkpkhggjhpikdaaW.PrintMore Go.Proofs.Ytkpkhggjhpikdaa.Plain
/-- A row of bytes that can be read. -/
def RdB (w : World) (A : Option Addr) (l : List Int) : Prop := (Kd.int .u8).C w A l.length l
theorem RdB.below {w w1 : World} {A : Option Addr} {l : List Int} (h : RdB w A l) (hb : Below w.heap.size w w1) : RdB w1 A l := Kd.C_below h hb
theorem RdB.nil (w : World) (A : Option Addr) : RdB w A [] := ⟨rfl, by simp, fun h => absurd h (Nat.lt_irrefl 0)⟩
theorem bytesOf_run {w : World} {A : Option Addr} {c : Nat} {l : List Int} (h : RdB w A l) : (Extern.Bytes.bytesOf (.slice A l.length c)).run Try.prog w = .ok ⟨(Lib.bytesOf l).toArray⟩ w := by
  cases A with
  | none =>
    have : l = [] := by
      cases l with
      | nil => rfl
      | cons x l =>
        obtain ⟨ad, hA, _⟩ := Kd.at_int h 0 (by omega) (by simp)
        cases hA
    subst this
    rfl
  | some a =>
    have := Lib.run_loadBytesX (P := Try.prog) w l a .empty (fun j x hj => by
      have hjl : j < l.length := (List.getElem?_eq_some_iff.1 hj).1
      obtain ⟨ad, hA, hc⟩ := Kd.at_int h (j : Int) (by omega) (by omega)
      cases hA
      rw [Int.toNat_natCast] at hc
      rw [hc]
      congr 2
      unfold rd
      rw [Int.toNat_natCast, List.getD_eq_getElem?_getD, hj]
      rfl)
    simpa [Extern.Bytes.bytesOf] using this
def cmpB (k l : List Int) : Int := Lib.compareBytes (Lib.bytesOf k) (Lib.bytesOf l)
theorem cmp_run {w : World} {A B : Option Addr} {c d : Nat} {k l : List Int} (hk : RdB w A k) (hl : RdB w B l) :
    (callFunc 46 #[.slice A k.length c, .slice B l.length d]).run Try.prog w = .ok (.value (.int .i64 (cmpB k l))) w := by
  rw [run_callFunc_extern Try.func46 (by kernel_rfl) (by kernel_rfl) (by kernel_rfl) (e := Extern.BytealgCompare.compare) (by kernel_rfl)]
  have : (Extern.BytealgCompare.compare #[.slice A k.length c, .slice B l.length d]).run Try.prog w = .ok (.int .i64 (cmpB k l)) w := by
    change Sem.run Try.prog (do pure (goInt (Extern.BytealgCompare.cmp (← Extern.Bytes.bytesOf (.slice A k.length c)) (← Extern.Bytes.bytesOf (.slice B l.length d))))) w = _
    simp only [Sem.run_bind, Sem.run_pure, bytesOf_run hk, bytesOf_run hl, Result.andThen]
    rw [Lib.cmp_eq]
    rfl
  rw [this]
  rfl
theorem compare_c {w : World} {A B : Option Addr} {c d : Nat} {k l : List Int} (hk : RdB w A k) (hl : RdB w B l) :
    Calls Try.prog 34 #[.slice A k.length c, .slice B l.length d] w fun e w' => e = .returned (.int .i64 (cmpB k l)) ∧ w = w' := by
  have hrun := cmp_run (c := c) (d := d) hk hl
  go_enter Try.func34, Try.ntmps34
  go_wp2
  go_ret
  exact ⟨rfl, rfl⟩
theorem cmpB_lts : ∀ {k l : List Int}, Byt k → Byt l → (cmpB k l < 0 ↔ lts k l = true)
  | [], [], _, _ => by simp [cmpB, Lib.bytesOf, Lib.compareBytes, lts]
  | [], _ :: _, _, _ => by simp [cmpB, Lib.bytesOf, Lib.compareBytes, lts]
  | _ :: _, [], _, _ => by simp [cmpB, Lib.bytesOf, Lib.compareBytes, lts]
  | a :: k, b :: l, hk, hl => by
    have ha := hk a (by simp)
    have hb := hl b (by simp)
    have ih := cmpB_lts (k := k) (l := l) (fun x hx => hk x (by simp [hx])) (fun x hx => hl x (by simp [hx]))
    obtain ⟨n, rfl⟩ := Int.eq_ofNat_of_zero_le ha.1
    obtain ⟨m, rfl⟩ := Int.eq_ofNat_of_zero_le hb.1
    have h1 : ((n : Int).toNat.toUInt8 < (m : Int).toNat.toUInt8) ↔ n < m := by
      rw [Int.toNat_natCast, Int.toNat_natCast, UInt8.lt_iff_toNat_lt]
      simp [Nat.toUInt8, UInt8.toNat_ofNat']
      omega
    have h2 : ((m : Int).toNat.toUInt8 < (n : Int).toNat.toUInt8) ↔ m < n := by
      rw [Int.toNat_natCast, Int.toNat_natCast, UInt8.lt_iff_toNat_lt]
      simp [Nat.toUInt8, UInt8.toNat_ofNat']
      omega
    unfold cmpB at ih ⊢
    simp only [Lib.bytesOf, List.map_cons, Lib.compareBytes, lts] at ih ⊢
    by_cases hnm : n < m
    · rw [if_pos (h1.2 hnm)]
      simp; omega
    · rw [if_neg (fun h => hnm (h1.1 h))]
      by_cases hmn : m < n
      · rw [if_pos (h2.2 hmn)]
        simp; omega
      · rw [if_neg (fun h => hmn (h2.1 h)), ih]
        have : n = m := by omega
        subst this
        simp
/-- The one arm of the tests: less. -/
theorem less_dec {k l : List Int} (hk : Byt k) (hl : Byt l) : decide (cmpB k l < 0) = lts k l := by
  have := cmpB_lts hk hl
  cases h : lts k l
  · exact decide_eq_false (fun hc => by rw [this.1 hc] at h; cases h)
  · exact decide_eq_true (this.2 h)
end Go.Proofs.Ytkpkhggjhpikdaa.Top
namespace Go.Proofs.Ytkpkhggjhpikdaa.Top
set_option linter.unusedSimpArgs false
set_option linter.unusedVariables false
open Go.RowKit Go.Proofs.YtkpkhggjhpikdaaW.PrintWords Go.Proofs.YtkpkhggjhpikdaaW.PrintLast Go.Proofs.YtkpkhggjhpikdaaW.PrintMore Go.Proofs.Ytkpkhggjhpikdaa.Plain
theorem info5 : (Try.prog.info? 5).map (fun i => (i.zero, i.size, i.bytes)) = some (some (.int .u8 0), 1, 1) := by kernel_rfl
theorem slice_eqA (w : World) (a : Addr) (n c : Nat) : (binOp .eql 23 (.slice (some a) n c) (.slice none 0 0)).run Try.prog w = .ok (.bool false) w := run_eql_slice_nil w _ _ (some a) n c Try.underlying23
set_option maxRecDepth 100000 in
theorem clone_c {w : World} {a : Addr} {c : Nat} {k : List Int} (hk : RdB w (some a) k) (h0 : 0 < k.length) (h1 : k.length ≤ 100000000) :
    Calls Try.prog 24 #[.slice (some a) k.length c] w fun e w' => ∃ v, e = .returned v ∧ w'.ownsRow w.heap.size 5 1 v k.length (nums .u8 k) ∧ Below w.heap.size w w' := by
  have hq := slice_eqA w a k.length c
  go_enter Try.func24, Try.ntmps24
  obtain ⟨i0, hi, hzz⟩ := Option.map_eq_some_iff.1 info5
  simp only [Prod.mk.injEq] at hzz
  obtain ⟨hz0, hz1, hz2⟩ := hzz
  have hold : (w.alloc (.cells #[] 5)).ownsRow w.heap.size 5 1 (.slice (some ⟨w.heap.size, 0, none⟩) 0 0) 0 [] := ⟨rfl, .inr ⟨_, 0, #[], rfl, Nat.le_refl _, heap_alloc_new _ _, Nat.le_refl _, by simp [maxLen], rfl, rfl⟩⟩
  have hnews : ∀ j u, (nums .u8 k)[j]? = some u → (w.alloc (.cells #[] 5)).cell? (a.add j) = some u := fun j u hu => by
    have hr : RdB (w.alloc (.cells #[] 5)) (some a) k := Kd.C_alloc hk _
    have hj : j < k.length := by
      have := (List.getElem?_eq_some_iff.1 hu).1
      simpa [nums] using this
    obtain ⟨ad, hA, hc⟩ := Kd.at_int hr (j : Int) (by omega) (by omega)
    cases hA
    rw [Int.toNat_natCast] at hc
    rw [hc, ← hu]
    unfold rd nums
    rw [Int.toNat_natCast, List.getElem?_map, List.getElem?_eq_getElem hj, List.getD_eq_getElem?_getD, List.getElem?_eq_getElem hj]
    rfl
  go_wp2_with (at_builtin; refine wpList_append_own_at _ rfl (.tmp 5) (.tmp 6) 23 rfl w.heap.size 5 i0 (.int .u8 0) 1 1 Try.underlying23 hi hz0 hz1 hz2 rfl (by decide) (.slice (some ⟨w.heap.size, 0, none⟩) 0 0) 0 [] rfl hold a k.length c (nums .u8 k) rfl (by simp [nums]) hnews (fun u hu => by (simp [nums] at hu; obtain ⟨x, _, rfl⟩ := hu; rfl)) (by simp only [maxLen]; omega) (by omega) (by simp [World.size_alloc]) ?_; intro v1 w1 hown hg hn hat)
  go_ret
  rw [Nat.zero_add, List.nil_append] at hown
  exact ⟨_, rfl, hown, ((Below.refl _ w).alloc (Nat.le_refl _) _).grown hg (by simp [World.size_alloc]) (fun b hb => by simp [Value.ownBlock] at hb; exact Nat.le_of_eq hb)⟩
end Go.Proofs.Ytkpkhggjhpikdaa.Top
