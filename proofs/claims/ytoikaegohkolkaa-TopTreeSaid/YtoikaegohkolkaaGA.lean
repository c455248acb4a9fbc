/-
  Contracts of bytes.Compare, bytes.Equal and slices.Clone at rows of bytes; conditions: those that each theorem states.
-/
import Derived.Test.YtoikaegohkolkaaLib2
import Derived.Test.YtoikaegohkolkaaPlain
import Derived.Laws.Externs
import Derived.Lib.BytesEntry
import Derived.Lib.LazyBuf
import Derived.Maps.AppendAt
import Derived.Deep.RegionHeld3
import Derived.Deep.LoopGhost
namespace Go.Proofs.Ytoikaegohkolkaa.Top
set_option linter.unusedSimpArgs false
set_option linter.unusedVariables false
open Go.RowKit Go.Proofs.YtoikaegohkolkaaW.PrintWords Go.Proofs.YtoikaegohkolkaaW.PrintLast Go.Proofs.YtoikaegohkolkaaW.PrintMore Go.Proofs.Ytoikaegohkolkaa.Plain
/-- A row of bytes that can be read. -/
def RdB (w : World) (A : Option Addr) (l : List Int) : Prop := (Kd.int .u8).C w A l.length l
theorem RdB.below {w w1 : World} {A : Option Addr} {l : List Int} (h : RdB w A l) (hb : Below w.heap.size w w1) : RdB w1 A l := Kd.C_below h hb
theorem RdB.nil (w : World) (A : Option Addr) : RdB w A [] := ⟨rfl, by simp, fun h => absurd h (Nat.lt_irrefl 0)⟩
theorem bytesOf_run {w : World} {A : Option Addr} {c : Nat} {l : List Int} (h : RdB w A l) : (Extern.Bytes.bytesOf (.slice A l.length c)).run Try.prog w = .ok ⟨(Lib.bytesOf l).toArray⟩ w := by
  cases A with
  | none =>
    have : l = [] := by
      cases l with
      | nil => rfl
      | cons x l =>
        obtain ⟨ad, hA, _⟩ := Kd.at_int h 0 (by omega) (by simp)
        cases hA
    subst this
    rfl
  | some a =>
    have := Lib.run_loadBytesX (P := Try.prog) w l a .empty (fun j x hj => by
      have hjl : j < l.length := (List.getElem?_eq_some_iff.1 hj).1
      obtain ⟨ad, hA, hc⟩ := Kd.at_int h (j : Int) (by omega) (by omega)
      cases hA
      rw [Int.toNat_natCast] at hc
      rw [hc]
      congr 2
      unfold rd
      rw [Int.toNat_natCast, List.getD_eq_getElem?_getD, hj]
      rfl)
    simpa [Extern.Bytes.bytesOf] using this
def cmpB (k l : List Int) : Int := Lib.compareBytes (Lib.bytesOf k) (Lib.bytesOf l)
theorem cmp_run {w : World} {A B : Option Addr} {c d : Nat} {k l : List Int} (hk : RdB w A k) (hl : RdB w B l) :
    (callFunc 47 #[.slice A k.length c, .slice B l.length d]).run Try.prog w = .ok (.value (.int .i64 (cmpB k l))) w := by
  rw [run_callFunc_extern Try.func47 (by kernel_rfl) (by kernel_rfl) (by kernel_rfl) (e := Extern.BytealgCompare.compare) (by kernel_rfl)]
  have : (Extern.BytealgCompare.compare #[.slice A k.length c, .slice B l.length d]).run Try.prog w = .ok (.int .i64 (cmpB k l)) w := by
    change Sem.run Try.prog (do pure (goInt (Extern.BytealgCompare.cmp (← Extern.Bytes.bytesOf (.slice A k.length c)) (← Extern.Bytes.bytesOf (.slice B l.length d))))) w = _
    simp only [Sem.run_bind, Sem.run_pure, bytesOf_run hk, bytesOf_run hl, Result.andThen]
    rw [Lib.cmp_eq]
    rfl
  rw [this]
  rfl
theorem compare_c {w : World} {A B : Option Addr} {c d : Nat} {k l : List Int} (hk : RdB w A k) (hl : RdB w B l) :
    Calls Try.prog 26 #[.slice A k.length c, .slice B l.length d] w fun e w' => e = .returned (.int .i64 (cmpB k l)) ∧ w = w' := by
  have hrun := cmp_run (c := c) (d := d) hk hl
  go_enter Try.func26, Try.ntmps26
  go_wp2
  go_ret
  exact ⟨rfl, rfl⟩
theorem cmpB_lts : ∀ {k l : List Int}, Byt k → Byt l → (cmpB k l < 0 ↔ lts k l = true)
  | [], [], _, _ => by simp [cmpB, Lib.bytesOf, Lib.compareBytes, lts]
  | [], _ :: _, _, _ => by simp [cmpB, Lib.bytesOf, Lib.compareBytes, lts]
  | _ :: _, [], _, _ => by simp [cmpB, Lib.bytesOf, Lib.compareBytes, lts]
  | a :: k, b :: l, hk, hl => by
    have ha := hk a (by simp)
    have hb := hl b (by simp)
    have ih := cmpB_lts (k := k) (l := l) (fun x hx => hk x (by simp [hx])) (fun x hx => hl x (by simp [hx]))
    obtain ⟨n, rfl⟩ := Int.eq_ofNat_of_zero_le ha.1
    obtain ⟨m, rfl⟩ := Int.eq_ofNat_of_zero_le hb.1
    have h1 : ((n : Int).toNat.toUInt8 < (m : Int).toNat.toUInt8) ↔ n < m := by
      rw [Int.toNat_natCast, Int.toNat_natCast, UInt8.lt_iff_toNat_lt]
      simp [Nat.toUInt8, UInt8.toNat_ofNat']
      omega
    have h2 : ((m : Int).toNat.toUInt8 < (n : Int).toNat.toUInt8) ↔ m < n := by
      rw [Int.toNat_natCast, Int.toNat_natCast, UInt8.lt_iff_toNat_lt]
      simp [Nat.toUInt8, UInt8.toNat_ofNat']
      omega
    unfold cmpB at ih ⊢
    simp only [Lib.bytesOf, List.map_cons, Lib.compareBytes, lts] at ih ⊢
    by_cases hnm : n < m
    · rw [if_pos (h1.2 hnm)]
      simp; omega
    · rw [if_neg (fun h => hnm (h1.1 h))]
      by_cases hmn : m < n
      · rw [if_pos (h2.2 hmn)]
        simp; omega
      · rw [if_neg (fun h => hmn (h2.1 h)), ih]
        have : n = m := by omega
        subst this
        simp
/-- The one arm of the tests: less. -/
theorem less_dec {k l : List Int} (hk : Byt k) (hl : Byt l) : decide (cmpB k l < 0) = lts k l := by
  have := cmpB_lts hk hl
  cases h : lts k l
  · exact decide_eq_false (fun hc => by rw [this.1 hc] at h; cases h)
  · exact decide_eq_true (this.2 h)
end Go.Proofs.Ytoikaegohkolkaa.Top
namespace Go.Proofs.Ytoikaegohkolkaa.Top
set_option linter.unusedSimpArgs false
set_option linter.unusedVariables false
open Go.RowKit Go.Proofs.YtoikaegohkolkaaW.PrintWords Go.Proofs.YtoikaegohkolkaaW.PrintLast Go.Proofs.YtoikaegohkolkaaW.PrintMore Go.Proofs.Ytoikaegohkolkaa.Plain
theorem info5 : (Try.prog.info? 5).map (fun i => (i.zero, i.size, i.bytes)) = some (some (.int .u8 0), 1, 1) := by kernel_rfl
theorem slice_eqA (w : World) (a : Addr) (n c : Nat) : (binOp .eql 49 (.slice (some a) n c) (.slice none 0 0)).run Try.prog w = .ok (.bool false) w := run_eql_slice_nil w _ _ (some a) n c Try.underlying49
set_option maxRecDepth 100000 in
theorem clone_a {w : World} {a : Addr} {c : Nat} {k : List Int} (hk : RdB w (some a) k) (h1 : k.length ≤ 100000000) :
    Calls Try.prog 56 #[.slice (some a) k.length c] w fun e w' => ∃ v, e = .returned v ∧ w'.ownsRow w.heap.size 5 1 v k.length (nums .u8 k) ∧ Below w.heap.size w w' := by
  have hq := slice_eqA w a k.length c
  go_enter Try.func56, Try.ntmps56
  obtain ⟨i0, hi, hzz⟩ := Option.map_eq_some_iff.1 info5
  simp only [Prod.mk.injEq] at hzz
  obtain ⟨hz0, hz1, hz2⟩ := hzz
  have hold : (w.alloc (.cells #[] 5)).ownsRow w.heap.size 5 1 (.slice (some ⟨w.heap.size, 0, none⟩) 0 0) 0 [] := ⟨rfl, .inr ⟨_, 0, #[], rfl, Nat.le_refl _, heap_alloc_new _ _, Nat.le_refl _, by simp [maxLen], rfl, rfl⟩⟩
  have hnews : ∀ j u, (nums .u8 k)[j]? = some u → (w.alloc (.cells #[] 5)).cell? (a.add j) = some u := fun j u hu => by
    have hr : RdB (w.alloc (.cells #[] 5)) (some a) k := Kd.C_alloc hk _
    have hj : j < k.length := by
      have := (List.getElem?_eq_some_iff.1 hu).1
      simpa [nums] using this
    obtain ⟨ad, hA, hc⟩ := Kd.at_int hr (j : Int) (by omega) (by omega)
    cases hA
    rw [Int.toNat_natCast] at hc
    rw [hc, ← hu]
    unfold rd nums
    rw [Int.toNat_natCast, List.getElem?_map, List.getElem?_eq_getElem hj, List.getD_eq_getElem?_getD, List.getElem?_eq_getElem hj]
    rfl
  go_wp2_with (at_builtin; refine wpList_append_own_at _ rfl (.tmp 5) (.tmp 6) 49 rfl w.heap.size 5 i0 (.int .u8 0) 1 1 Try.underlying49 hi hz0 hz1 hz2 rfl (by decide) (.slice (some ⟨w.heap.size, 0, none⟩) 0 0) 0 [] rfl hold a k.length c (nums .u8 k) rfl (by simp [nums]) hnews (fun u hu => by (simp [nums] at hu; obtain ⟨x, _, rfl⟩ := hu; rfl)) (by simp only [maxLen]; omega) (by omega) (by simp [World.size_alloc]) ?_; intro v1 w1 hown hg hn hat)
  go_ret
  rw [Nat.zero_add, List.nil_append] at hown
  exact ⟨_, rfl, hown, ((Below.refl _ w).alloc (Nat.le_refl _) _).grown hg (by simp [World.size_alloc]) (fun b hb => by simp [Value.ownBlock] at hb; exact Nat.le_of_eq hb)⟩
theorem clone_c {w : World} {a : Addr} {c : Nat} {k : List Int} (hk : RdB w (some a) k) (h0 : 0 < k.length) (h1 : k.length ≤ 100000000) :
    Calls Try.prog 56 #[.slice (some a) k.length c] w fun e w' => ∃ v, e = .returned v ∧ w'.ownsRow w.heap.size 5 1 v k.length (nums .u8 k) ∧ Below w.heap.size w w' := clone_a hk h1
end Go.Proofs.Ytoikaegohkolkaa.Top
namespace Go.Proofs.Ytoikaegohkolkaa.Top
set_option linter.unusedSimpArgs false
set_option linter.unusedVariables false
open Go.RowKit Go.Proofs.YtoikaegohkolkaaW.PrintWords Go.Proofs.YtoikaegohkolkaaW.PrintLast Go.Proofs.YtoikaegohkolkaaW.PrintMore
theorem al_new {W : World} {o : Obj} {k : Nat} (h : k = W.heap.size) : (W.alloc o).heap[k]? = some o := by
  subst h
  exact heap_alloc_new W o
theorem al_old {W : World} {o : Obj} {k : Nat} (h : W.heap[k]? = some o) (o' : Obj) : (W.alloc o').heap[k]? = some o := blk_alloc h _
/-- What is known of facts: how many, is it over, the sum's halves, the least, the greatest. -/
structure Ag where
  c : Int
  o : Bool
  hi : Int
  lo : Int
  mn : Int
  mx : Int
def Ag.v (a : Ag) : Value := .agg #[.int .u64 a.c, .bool a.o, .int .i64 a.hi, .int .u64 a.lo, .int .i64 a.mn, .int .i64 a.mx]
/-- Each part lies in its kind's range. -/
structure Ag.ok (a : Ag) : Prop where
  c : 0 ≤ a.c ∧ a.c < 18446744073709551616
  hi : -9223372036854775808 ≤ a.hi ∧ a.hi < 9223372036854775808
  lo : 0 ≤ a.lo ∧ a.lo < 18446744073709551616
theorem add64_run (x y c : Int) (hx : 0 ≤ x) (hy : 0 ≤ y) (h0 : 0 ≤ c) (h1 : c ≤ 1) (w : World) :
    (callFunc 91 #[.int .u64 x, .int .u64 y, .int .u64 c]).run Try.prog w = .ok (.value (.tuple #[.int .u64 ((x + y + c) % 18446744073709551616), .int .u64 ((x + y + c) / 18446744073709551616)])) w := by
  rw [run_callFunc_extern Try.func91 (by kernel_rfl) (by kernel_rfl) (by kernel_rfl) (e := add64Entry) (by kernel_rfl), run_add64 x y c hx hy h0 h1]
  rfl
theorem u64_rng (x : Int) : 0 ≤ IntKind.u64.wrap x ∧ IntKind.u64.wrap x < 18446744073709551616 := by
  have : IntKind.u64.wrap x = x % 18446744073709551616 := by rfl
  omega
/-- The halves of a sum. -/
def addLo (l l' : Int) : Int := (l + l') % 18446744073709551616
def addHi (h l h' l' : Int) : Int := wrap64 ((IntKind.u64.wrap h + IntKind.u64.wrap h' + (l + l') / 18446744073709551616) % 18446744073709551616)
set_option maxHeartbeats 2000000 in
set_option maxRecDepth 100000 in
theorem sum_c {w : World} {g : Nat} {h l h' l' : Int} {t : TypeId} (hg : w.heap[g]? = some (.cells #[.int .i64 h, .int .u64 l, .int .i64 h', .int .u64 l'] t (0, 0))) (hl : 0 ≤ l) (hl' : 0 ≤ l' ∧ l' < 18446744073709551616) (hlt : l < 18446744073709551616) :
    Calls Try.prog 78 #[.slice (some ⟨g, 0, none⟩) 2 2] w fun e w' => e = .returned (.agg #[.int .i64 (addHi h l h' l'), .int .u64 (addLo l l')]) ∧ Below w.heap.size w w' := by
  have hB := (Below.refl w.heap.size w).alloc (Nat.le_refl _) (.cells #[.int .i64 0, .int .u64 0] 52)
  have hR := heap_alloc_new w (.cells #[.int .i64 0, .int .u64 0] 52)
  have hgl : g < w.heap.size := blk_lt hg
  go_enter Try.func78, Try.ntmps78
  go_wp2
  go_loopw [3, 4, 5, 10] (fun hi lo cy i wr => ((hi = .int .u64 0 ∧ lo = .int .u64 0 ∧ cy = .int .u64 0 ∧ i = .int .i64 0) ∨ (hi = .int .u64 (IntKind.u64.wrap h) ∧ lo = .int .u64 l ∧ cy = .int .u64 0 ∧ i = .int .i64 1) ∨ (hi = .int .u64 ((IntKind.u64.wrap h + IntKind.u64.wrap h' + (l + l') / 18446744073709551616) % 18446744073709551616) ∧ lo = .int .u64 (addLo l l') ∧ i = .int .i64 2)) ∧
    wr.heap[w.heap.size]? = some (.cells #[.int .i64 0, .int .u64 0] 52 (0, 0)) ∧ Below w.heap.size w wr) (fun _ _ _ i _ => 2 - (intOf i).toNat)
  case atStart => exact ⟨.inl ⟨rfl, rfl, rfl, rfl⟩, hR, hB⟩
  case round =>
    clear hR hB
    obtain ⟨h0, hR, hB⟩ := hrel
    have hg1 : wr.heap[g]? = some (.cells #[.int .i64 h, .int .u64 l, .int .i64 h', .int .u64 l'] t (0, 0)) := (hB.block g hgl).trans hg
    have z0 : wr.cell? ⟨g, 0, none⟩ = some (.int .i64 h) := (blk_cell hg1 0).trans rfl
    have z1 : wr.cell? ⟨g, 1, none⟩ = some (.int .u64 l) := (blk_cell hg1 1).trans rfl
    have z2 : wr.cell? ⟨g, 2, none⟩ = some (.int .i64 h') := (blk_cell hg1 2).trans rfl
    have z3 : wr.cell? ⟨g, 3, none⟩ = some (.int .u64 l') := (blk_cell hg1 3).trans rfl
    have y0 : wr.cell? ⟨w.heap.size, 0, none⟩ = some (.int .i64 0) := (blk_cell hR 0).trans rfl
    have y1 : wr.cell? ⟨w.heap.size, 1, none⟩ = some (.int .u64 0) := (blk_cell hR 1).trans rfl
    have f0 := blk_frozen hR 0
    have f1 := blk_frozen hR 1
    have hw : 0 ≤ IntKind.u64.wrap h ∧ IntKind.u64.wrap h < 18446744073709551616 := u64_rng _
    have hw' : 0 ≤ IntKind.u64.wrap h' ∧ IntKind.u64.wrap h' < 18446744073709551616 := u64_rng _
    have e1 : (0 + l + 0) % 18446744073709551616 = l := by omega
    have e2 : (0 + l + 0) / 18446744073709551616 = 0 := by omega
    have e3 : (0 + IntKind.u64.wrap h + 0) % 18446744073709551616 = IntKind.u64.wrap h := by omega
    rcases h0 with ⟨rfl, rfl, rfl, rfl⟩ | ⟨rfl, rfl, rfl, rfl⟩ | ⟨rfl, rfl, rfl⟩
    · have a1 := add64_run 0 l 0 (by omega) hl (by omega) (by omega)
      have a2 := add64_run 0 (IntKind.u64.wrap h) 0 (by omega) hw.1 (by omega) (by omega)
      rw [e1, e2] at a1
      rw [e3] at a2
      go_wp2
      go_roundw
      case rel => exact ⟨.inr (.inl ⟨rfl, rfl, rfl, rfl⟩), blk_alloc hR _, hB.alloc hB.size _⟩
      case measure => simp [intOf]
    · have a1 := add64_run l l' 0 hl hl'.1 (by omega) (by omega)
      have hcy : 0 ≤ (l + l') / 18446744073709551616 ∧ (l + l') / 18446744073709551616 ≤ 1 := by omega
      have a2 := add64_run (IntKind.u64.wrap h) (IntKind.u64.wrap h') ((l + l') / 18446744073709551616) hw.1 hw'.1 hcy.1 hcy.2
      have e4 : l + l' + 0 = l + l' := by omega
      rw [e4] at a1
      go_wp2
      go_roundw
      case rel => exact ⟨.inr (.inr ⟨rfl, rfl, rfl⟩), blk_alloc hR _, hB.alloc hB.size _⟩
      case measure => simp [intOf]
    · go_wp2
      refine bodyPost_ret (results_cell_row rfl _ _ w.heap.size 52 #[.int .i64 (addHi h l h' l'), .int .u64 (addLo l l')] (0, 0) _ rfl (blk_put (blk_put hR 0 (.int .i64 (addHi h l h' l')) rfl) 1 (.int .u64 (addLo l l')) rfl) Try.underlying52 rfl (by kernel_rfl)) rfl ?_
      exact ⟨rfl, (hB.setCell (p := ⟨w.heap.size, 0, none⟩) (Nat.le_refl _) _).setCell (p := ⟨w.heap.size, 1, none⟩) (Nat.le_refl _) _⟩
set_option maxHeartbeats 2000000 in
theorem add_c {w : World} {h l h' l' : Int} (hl : 0 ≤ l ∧ l < 18446744073709551616) (hl' : 0 ≤ l' ∧ l' < 18446744073709551616) :
    Calls Try.prog 50 #[.agg #[.int .i64 h, .int .u64 l], .agg #[.int .i64 h', .int .u64 l']] w fun e w' => e = .returned (.agg #[.int .i64 (addHi h l h' l'), .int .u64 (addLo l l')]) ∧ Below w.heap.size w w' := by
  go_enter Try.func50, Try.ntmps50
  go_wp2_with fail
  refine (sum_c (al_new (by simp [World.size_alloc])) hl.1 hl' hl.2).mono ?_
  rintro e w2 ⟨rfl, hb⟩
  have hR : w2.heap[w.heap.size + 1 + 1]? = some (.cells #[.int .i64 0, .int .u64 0] 52 (0, 0)) := (hb.block _ (by simp [World.size_alloc])).trans (al_old (al_new (by simp [World.size_alloc])) _)
  have hB : Below w.heap.size w w2 := (((((Below.refl _ w).alloc (Nat.le_refl _) _).alloc (by simp [World.size_alloc]) _).alloc (by simp [World.size_alloc]; omega) _).alloc (by simp [World.size_alloc]; omega) _).trans (hb.mono (by simp [World.size_alloc]; omega))
  have f0 := blk_frozen hR 0
  have f1 := blk_frozen hR 1
  have z0 : w2.cell? ⟨w.heap.size + 1 + 1, 0, none⟩ = some (.int .i64 0) := (blk_cell hR 0).trans rfl
  have z1 : w2.cell? ⟨w.heap.size + 1 + 1, 1, none⟩ = some (.int .u64 0) := (blk_cell hR 1).trans rfl
  go_wp2
  refine bodyPost_ret (results_cell_row rfl _ _ (w.heap.size + 1 + 1) 52 #[.int .i64 (addHi h l h' l'), .int .u64 (addLo l l')] (0, 0) _ rfl (blk_put (blk_put hR 0 (.int .i64 (addHi h l h' l')) rfl) 1 (.int .u64 (addLo l l')) rfl) Try.underlying52 rfl (by kernel_rfl)) rfl ?_
  exact ⟨rfl, (hB.setCell (p := ⟨w.heap.size + 1 + 1, 0, none⟩) (by simp; omega) _).setCell (p := ⟨w.heap.size + 1 + 1, 1, none⟩) (by simp; omega) _⟩
/-- The better of two. -/
def minF (a b : Int) : Int := if b < a then b else a
def maxF (a b : Int) : Int := if a < b then b else a
theorem less_c (x y : Int) (w : World) : Calls Try.prog 48 #[.int .i64 x, .int .i64 y] w fun e w' => e = .returned (.bool (decide (x < y))) ∧ w = w' := by
  go_enter Try.func48, Try.ntmps48
  go_wp2
  go_ret
  exact ⟨rfl, rfl⟩
theorem more_c (x y : Int) (w : World) : Calls Try.prog 49 #[.int .i64 x, .int .i64 y] w fun e w' => e = .returned (.bool (decide (y < x))) ∧ w = w' := by
  go_enter Try.func49, Try.ntmps49
  go_wp2
  go_ret
  exact ⟨rfl, rfl⟩
theorem min_c (a b : Int) (w : World) : Calls Try.prog 51 #[.int .i64 a, .int .i64 b, .func (.func 48) #[] #[]] w fun e w' => e = .returned (.int .i64 (minF a b)) ∧ w = w' := by
  by_cases h' : b < a
  · go_enter Try.func51, Try.ntmps51
    go_wp2_with (refine (less_c b a _).mono ?_; rw [decide_eq_true h']; rintro e w' ⟨rfl, rfl⟩)
    go_ret
    exact ⟨by rw [show minF a b = b from if_pos h']; rfl, rfl⟩
  · go_enter Try.func51, Try.ntmps51
    go_wp2_with (refine (less_c b a _).mono ?_; rw [decide_eq_false h']; rintro e w' ⟨rfl, rfl⟩)
    go_ret
    exact ⟨by rw [show minF a b = a from if_neg (by omega)]; rfl, rfl⟩
theorem max_c (a b : Int) (w : World) : Calls Try.prog 51 #[.int .i64 a, .int .i64 b, .func (.func 49) #[] #[]] w fun e w' => e = .returned (.int .i64 (maxF a b)) ∧ w = w' := by
  by_cases h' : a < b
  · go_enter Try.func51, Try.ntmps51
    go_wp2_with (refine (more_c b a _).mono ?_; rw [decide_eq_true h']; rintro e w' ⟨rfl, rfl⟩)
    go_ret
    exact ⟨by rw [show maxF a b = b from if_pos h']; rfl, rfl⟩
  · go_enter Try.func51, Try.ntmps51
    go_wp2_with (refine (more_c b a _).mono ?_; rw [decide_eq_false h']; rintro e w' ⟨rfl, rfl⟩)
    go_ret
    exact ⟨by rw [show maxF a b = a from if_neg (by omega)]; rfl, rfl⟩
/-- What is known of both. -/
def mergeF (a b : Ag) : Ag :=
  if a.c = 0 then b else if b.c = 0 then a else
    if IntKind.u64.wrap (a.c + b.c) < a.c ∨ (a.o || b.o) = true then ⟨18446744073709551615, true, addHi a.hi a.lo b.hi b.lo, addLo a.lo b.lo, minF a.mn b.mn, maxF a.mx b.mx⟩
    else ⟨IntKind.u64.wrap (a.c + b.c), a.o || b.o, addHi a.hi a.lo b.hi b.lo, addLo a.lo b.lo, minF a.mn b.mn, maxF a.mx b.mx⟩
theorem blk_six {w : World} {g : Nat} {t : TypeId} {c0 c1 c2 c3 c4 c5 : Value} (h : w.heap[g]? = some (.cells #[c0, c1, c2, c3, c4, c5] t (0, 0))) (v0 v1 v2 v3 v4 v5 : Value) :
    ((((((w.setCell ⟨g, 0, none⟩ v0).setCell ⟨g, 1, none⟩ v1).setCell ⟨g, 2, none⟩ v2).setCell ⟨g, 3, none⟩ v3).setCell ⟨g, 4, none⟩ v4).setCell ⟨g, 5, none⟩ v5).heap[g]? = some (.cells #[v0, v1, v2, v3, v4, v5] t (0, 0)) :=
  blk_put (blk_put (blk_put (blk_put (blk_put (blk_put h 0 v0 rfl) 1 v1 rfl) 2 v2 rfl) 3 v3 rfl) 4 v4 rfl) 5 v5 rfl
theorem below_six {B : Nat} {w0 w : World} {g : Nat} (h : Below B w0 w) (hg : B ≤ g) (v0 v1 v2 v3 v4 v5 : Value) :
    Below B w0 ((((((w.setCell ⟨g, 0, none⟩ v0).setCell ⟨g, 1, none⟩ v1).setCell ⟨g, 2, none⟩ v2).setCell ⟨g, 3, none⟩ v3).setCell ⟨g, 4, none⟩ v4).setCell ⟨g, 5, none⟩ v5) :=
  (((((h.setCell (p := ⟨g, 0, none⟩) hg v0).setCell (p := ⟨g, 1, none⟩) hg v1).setCell (p := ⟨g, 2, none⟩) hg v2).setCell (p := ⟨g, 3, none⟩) hg v3).setCell (p := ⟨g, 4, none⟩) hg v4).setCell (p := ⟨g, 5, none⟩) hg v5
/-- Three blocks of six cells, and what lay before. -/
structure MS (w0 : World) (ga gb gr : Nat) (a0 a1 a2 a3 a4 a5 b0 b1 b2 b3 b4 b5 r0 r1 r2 r3 r4 r5 : Value) (w : World) : Prop where
  a : w.heap[ga]? = some (.cells #[a0, a1, a2, a3, a4, a5] 54 (0, 0))
  b : w.heap[gb]? = some (.cells #[b0, b1, b2, b3, b4, b5] 54 (0, 0))
  r : w.heap[gr]? = some (.cells #[r0, r1, r2, r3, r4, r5] 54 (0, 0))
  be : Below ga w0 w
  le : ga ≤ w.heap.size
section
variable {w0 w w1 : World} {ga gb gr : Nat} {a0 a1 a2 a3 a4 a5 b0 b1 b2 b3 b4 b5 r0 r1 r2 r3 r4 r5 : Value}
theorem MS.step (h : MS w0 ga gb gr a0 a1 a2 a3 a4 a5 b0 b1 b2 b3 b4 b5 r0 r1 r2 r3 r4 r5 w) (hb : Below w.heap.size w w1) : MS w0 ga gb gr a0 a1 a2 a3 a4 a5 b0 b1 b2 b3 b4 b5 r0 r1 r2 r3 r4 r5 w1 :=
  ⟨(hb.block _ (blk_lt h.a)).trans h.a, (hb.block _ (blk_lt h.b)).trans h.b, (hb.block _ (blk_lt h.r)).trans h.r, h.be.trans (hb.mono h.le), Nat.le_trans h.le hb.size⟩
theorem MS.alloc (h : MS w0 ga gb gr a0 a1 a2 a3 a4 a5 b0 b1 b2 b3 b4 b5 r0 r1 r2 r3 r4 r5 w) (o : Obj) : MS w0 ga gb gr a0 a1 a2 a3 a4 a5 b0 b1 b2 b3 b4 b5 r0 r1 r2 r3 r4 r5 (w.alloc o) := h.step (below_alloc (Below.refl _ _) o)
theorem MS.drew (h : MS w0 ga gb gr a0 a1 a2 a3 a4 a5 b0 b1 b2 b3 b4 b5 r0 r1 r2 r3 r4 r5 w) : MS w0 ga gb gr a0 a1 a2 a3 a4 a5 b0 b1 b2 b3 b4 b5 r0 r1 r2 r3 r4 r5 w.drew := ⟨h.a, h.b, h.r, below_drew h.be, h.le⟩
theorem MS.s (h : MS w0 ga gb gr a0 a1 a2 a3 a4 a5 b0 b1 b2 b3 b4 b5 r0 r1 r2 r3 r4 r5 w) : w.cell? ⟨ga, 0, none⟩ = some a0 ∧ w.cell? ⟨ga, 1, none⟩ = some a1 ∧ w.cell? ⟨ga, 2, none⟩ = some a2 ∧ w.cell? ⟨ga, 3, none⟩ = some a3 ∧ w.cell? ⟨ga, 4, none⟩ = some a4 ∧ w.cell? ⟨ga, 5, none⟩ = some a5 ∧ w.cell? ⟨gb, 0, none⟩ = some b0 ∧ w.cell? ⟨gb, 1, none⟩ = some b1 ∧ w.cell? ⟨gb, 2, none⟩ = some b2 ∧ w.cell? ⟨gb, 3, none⟩ = some b3 ∧ w.cell? ⟨gb, 4, none⟩ = some b4 ∧ w.cell? ⟨gb, 5, none⟩ = some b5 ∧ MS w0 ga gb gr a0 a1 a2 a3 a4 a5 b0 b1 b2 b3 b4 b5 r0 r1 r2 r3 r4 r5 w :=
  ⟨(blk_cell h.a 0).trans rfl, (blk_cell h.a 1).trans rfl, (blk_cell h.a 2).trans rfl, (blk_cell h.a 3).trans rfl, (blk_cell h.a 4).trans rfl, (blk_cell h.a 5).trans rfl, (blk_cell h.b 0).trans rfl, (blk_cell h.b 1).trans rfl, (blk_cell h.b 2).trans rfl, (blk_cell h.b 3).trans rfl, (blk_cell h.b 4).trans rfl, (blk_cell h.b 5).trans rfl, h⟩
theorem MS.ofS (h : w.cell? ⟨ga, 0, none⟩ = some a0 ∧ w.cell? ⟨ga, 1, none⟩ = some a1 ∧ w.cell? ⟨ga, 2, none⟩ = some a2 ∧ w.cell? ⟨ga, 3, none⟩ = some a3 ∧ w.cell? ⟨ga, 4, none⟩ = some a4 ∧ w.cell? ⟨ga, 5, none⟩ = some a5 ∧ w.cell? ⟨gb, 0, none⟩ = some b0 ∧ w.cell? ⟨gb, 1, none⟩ = some b1 ∧ w.cell? ⟨gb, 2, none⟩ = some b2 ∧ w.cell? ⟨gb, 3, none⟩ = some b3 ∧ w.cell? ⟨gb, 4, none⟩ = some b4 ∧ w.cell? ⟨gb, 5, none⟩ = some b5 ∧ MS w0 ga gb gr a0 a1 a2 a3 a4 a5 b0 b1 b2 b3 b4 b5 r0 r1 r2 r3 r4 r5 w) : MS w0 ga gb gr a0 a1 a2 a3 a4 a5 b0 b1 b2 b3 b4 b5 r0 r1 r2 r3 r4 r5 w := h.2.2.2.2.2.2.2.2.2.2.2.2
theorem MS.set (h : MS w0 ga gb gr a0 a1 a2 a3 a4 a5 b0 b1 b2 b3 b4 b5 r0 r1 r2 r3 r4 r5 w) {g : Nat} (h1 : ga ≠ g) (h2 : gb ≠ g) (h3 : gr ≠ g) (h4 : ga ≤ g) (v0 v1 v2 v3 v4 v5 : Value) :
    MS w0 ga gb gr a0 a1 a2 a3 a4 a5 b0 b1 b2 b3 b4 b5 r0 r1 r2 r3 r4 r5 ((((((w.setCell ⟨g, 0, none⟩ v0).setCell ⟨g, 1, none⟩ v1).setCell ⟨g, 2, none⟩ v2).setCell ⟨g, 3, none⟩ v3).setCell ⟨g, 4, none⟩ v4).setCell ⟨g, 5, none⟩ v5) := by
  have far : ∀ k, k ≠ g → ((((((w.setCell ⟨g, 0, none⟩ v0).setCell ⟨g, 1, none⟩ v1).setCell ⟨g, 2, none⟩ v2).setCell ⟨g, 3, none⟩ v3).setCell ⟨g, 4, none⟩ v4).setCell ⟨g, 5, none⟩ v5).heap[k]? = w.heap[k]? := fun k hk => by
    rw [Below.heap_setCell _ _ _ _ hk, Below.heap_setCell _ _ _ _ hk, Below.heap_setCell _ _ _ _ hk, Below.heap_setCell _ _ _ _ hk, Below.heap_setCell _ _ _ _ hk, Below.heap_setCell _ _ _ _ hk]
  exact ⟨(far _ h1).trans h.a, (far _ h2).trans h.b, (far _ h3).trans h.r, below_six h.be h4 _ _ _ _ _ _, by simpa [World.setCell] using h.le⟩
end
set_option maxHeartbeats 4000000 in
set_option maxRecDepth 100000 in
theorem merge_c {w : World} {a b : Ag} (ha : a.ok) (hb : b.ok) (hao : a.o = false) : Calls Try.prog 27 #[a.v, b.v] w fun e w' => e = .returned (mergeF a b).v ∧ Below w.heap.size w w' := by
  obtain ⟨ac, ao, ah, al, an, ax⟩ := a
  obtain ⟨bc, bo, bh, bl, bn, bx⟩ := b
  obtain ⟨⟨hac0, hac1⟩, _, ⟨hal0, hal1⟩⟩ := ha
  obtain ⟨⟨hbc0, hbc1⟩, _, ⟨hbl0, hbl1⟩⟩ := hb
  simp only at hac0 hac1 hal0 hal1 hbc0 hbc1 hbl0 hbl1
  have HAO : Aside0 (ao = false) := Aside0.mk hao
  clear hao
  have hm : (ac = 0 ∧ mergeF ⟨ac, ao, ah, al, an, ax⟩ ⟨bc, bo, bh, bl, bn, bx⟩ = ⟨bc, bo, bh, bl, bn, bx⟩) ∨ ((ac == 0) = false ∧ bc = 0 ∧ mergeF ⟨ac, ao, ah, al, an, ax⟩ ⟨bc, bo, bh, bl, bn, bx⟩ = ⟨ac, ao, ah, al, an, ax⟩) ∨
      ((ac == 0) = false ∧ (bc == 0) = false ∧ (IntKind.u64.wrap (ac + bc) < ac ∨ (ao || bo) = true) ∧ mergeF ⟨ac, ao, ah, al, an, ax⟩ ⟨bc, bo, bh, bl, bn, bx⟩ = ⟨18446744073709551615, true, addHi ah al bh bl, addLo al bl, minF an bn, maxF ax bx⟩) ∨
      ((ac == 0) = false ∧ (bc == 0) = false ∧ ¬ (IntKind.u64.wrap (ac + bc) < ac) ∧ (ao = false ∧ bo = false) ∧ mergeF ⟨ac, ao, ah, al, an, ax⟩ ⟨bc, bo, bh, bl, bn, bx⟩ = ⟨IntKind.u64.wrap (ac + bc), false, addHi ah al bh bl, addLo al bl, minF an bn, maxF ax bx⟩) := by
    by_cases h1 : ac = 0
    · exact .inl ⟨h1, by simp [mergeF, h1]⟩
    · by_cases h2 : bc = 0
      · exact .inr (.inl ⟨beq_eq_false_iff_ne.2 h1, h2, by simp [mergeF, h1, h2]⟩)
      · by_cases h3 : IntKind.u64.wrap (ac + bc) < ac ∨ (ao || bo) = true
        · exact .inr (.inr (.inl ⟨beq_eq_false_iff_ne.2 h1, beq_eq_false_iff_ne.2 h2, h3, by unfold mergeF; rw [if_neg h1, if_neg h2, if_pos h3]⟩))
        · refine .inr (.inr (.inr ⟨beq_eq_false_iff_ne.2 h1, beq_eq_false_iff_ne.2 h2, fun h => h3 (.inl h), ?_, ?_⟩))
          · cases ao <;> cases bo <;> simp at h3 ⊢
          · unfold mergeF
            rw [if_neg h1, if_neg h2, if_neg h3]
            have : (ao || bo) = false := by cases ao <;> cases bo <;> simp at h3 ⊢
            simp only [this]
  rcases hm with ⟨h1, hm⟩ | ⟨h1, h2, hm⟩ | h3
  · rw [hm]
    clear hm
    subst h1
    unfold Ag.v
    go_enter Try.func27, Try.ntmps27
    go_wp2
    refine bodyPost_ret (results_cell_row rfl _ _ (w.heap.size + 1 + 1) 54 #[.int .u64 bc, .bool bo, .int .i64 bh, .int .u64 bl, .int .i64 bn, .int .i64 bx] (0, 0) _ rfl (al_new (by simp [World.size_alloc])) Try.underlying54 rfl (by kernel_rfl)) rfl ?_
    exact ⟨rfl, ((((Below.refl _ w).alloc (Nat.le_refl _) _).alloc (by simp [World.size_alloc]) _).alloc (by simp [World.size_alloc]; omega) _)⟩
  · rw [hm]
    clear hm
    subst h2
    unfold Ag.v
    go_enter Try.func27, Try.ntmps27
    go_wp2
    refine bodyPost_ret (results_cell_row rfl _ _ (w.heap.size + 1 + 1) 54 #[.int .u64 ac, .bool ao, .int .i64 ah, .int .u64 al, .int .i64 an, .int .i64 ax] (0, 0) _ rfl (al_new (by simp [World.size_alloc])) Try.underlying54 rfl (by kernel_rfl)) rfl ?_
    exact ⟨rfl, ((((Below.refl _ w).alloc (Nat.le_refl _) _).alloc (by simp [World.size_alloc]) _).alloc (by simp [World.size_alloc]; omega) _)⟩
  · have h1 : (ac == 0) = false := by rcases h3 with h | h <;> exact h.1
    have h2 : (bc == 0) = false := by rcases h3 with h | h <;> exact h.2.1
    have H3 := Aside0.mk h3
    clear h3
    unfold Ag.v
    generalize mergeF ⟨ac, ao, ah, al, an, ax⟩ ⟨bc, bo, bh, bl, bn, bx⟩ = m at H3 ⊢
    go_enter Try.func27, Try.ntmps27
    go_wp2_with fail
    have hA : (((w.alloc (.cells #[.int .u64 ac, .bool ao, .int .i64 ah, .int .u64 al, .int .i64 an, .int .i64 ax] 54)).alloc (.cells #[.int .u64 bc, .bool bo, .int .i64 bh, .int .u64 bl, .int .i64 bn, .int .i64 bx] 54)).alloc (.cells #[.int .u64 0, .bool false, .int .i64 0, .int .u64 0, .int .i64 0, .int .i64 0] 54)).heap[w.heap.size]? = some (.cells #[.int .u64 ac, .bool ao, .int .i64 ah, .int .u64 al, .int .i64 an, .int .i64 ax] 54 (0, 0)) := al_old (al_old (al_new rfl) _) _
    have hBB : (((w.alloc (.cells #[.int .u64 ac, .bool ao, .int .i64 ah, .int .u64 al, .int .i64 an, .int .i64 ax] 54)).alloc (.cells #[.int .u64 bc, .bool bo, .int .i64 bh, .int .u64 bl, .int .i64 bn, .int .i64 bx] 54)).alloc (.cells #[.int .u64 0, .bool false, .int .i64 0, .int .u64 0, .int .i64 0, .int .i64 0] 54)).heap[w.heap.size + 1]? = some (.cells #[.int .u64 bc, .bool bo, .int .i64 bh, .int .u64 bl, .int .i64 bn, .int .i64 bx] 54 (0, 0)) := al_old (al_new (by simp [World.size_alloc])) _
    have hR : (((w.alloc (.cells #[.int .u64 ac, .bool ao, .int .i64 ah, .int .u64 al, .int .i64 an, .int .i64 ax] 54)).alloc (.cells #[.int .u64 bc, .bool bo, .int .i64 bh, .int .u64 bl, .int .i64 bn, .int .i64 bx] 54)).alloc (.cells #[.int .u64 0, .bool false, .int .i64 0, .int .u64 0, .int .i64 0, .int .i64 0] 54)).heap[w.heap.size + 1 + 1]? = some (.cells #[.int .u64 0, .bool false, .int .i64 0, .int .u64 0, .int .i64 0, .int .i64 0] 54 (0, 0)) := al_new (by simp [World.size_alloc])
    have hB : Below w.heap.size w (((w.alloc (.cells #[.int .u64 ac, .bool ao, .int .i64 ah, .int .u64 al, .int .i64 an, .int .i64 ax] 54)).alloc (.cells #[.int .u64 bc, .bool bo, .int .i64 bh, .int .u64 bl, .int .i64 bn, .int .i64 bx] 54)).alloc (.cells #[.int .u64 0, .bool false, .int .i64 0, .int .u64 0, .int .i64 0, .int .i64 0] 54)) := ((((Below.refl _ w).alloc (Nat.le_refl _) _).alloc (by simp [World.size_alloc]) _).alloc (by simp [World.size_alloc]; omega) _)
    have hgr : w.heap.size ≤ w.heap.size + 1 + 1 := by omega
    generalize hga : w.heap.size = ga at *
    generalize hgb : ga + 1 = gb at *
    generalize hgrr : gb + 1 = gr at *
    generalize (((w.alloc (.cells #[.int .u64 ac, .bool ao, .int .i64 ah, .int .u64 al, .int .i64 an, .int .i64 ax] 54)).alloc (.cells #[.int .u64 bc, .bool bo, .int .i64 bh, .int .u64 bl, .int .i64 bn, .int .i64 bx] 54)).alloc (.cells #[.int .u64 0, .bool false, .int .i64 0, .int .u64 0, .int .i64 0, .int .i64 0] 54)) = W0 at *
    have HGA := Aside0.mk hga
    have hgrr' : ga ≤ gr := by omega
    have hgrr2 := hgrr'
    clear hga hgb hgrr
    have hgrr := hgrr2
    clear hgrr2 hgrr'
    have hsplit : (decide (IntKind.u64.wrap (ac + bc) < ac) = true ∧ m = ⟨18446744073709551615, true, addHi ah al bh bl, addLo al bl, minF an bn, maxF ax bx⟩) ∨ (decide (IntKind.u64.wrap (ac + bc) < ac) = false ∧ (ao || bo) = true ∧ m = ⟨18446744073709551615, true, addHi ah al bh bl, addLo al bl, minF an bn, maxF ax bx⟩) ∨ (decide (IntKind.u64.wrap (ac + bc) < ac) = false ∧ ao = false ∧ bo = false ∧ m = ⟨IntKind.u64.wrap (ac + bc), false, addHi ah al bh bl, addLo al bl, minF an bn, maxF ax bx⟩) := by
      by_cases hd : IntKind.u64.wrap (ac + bc) < ac
      · refine .inl ⟨decide_eq_true hd, ?_⟩
        rcases H3.out with h | h
        · exact h.2.2.2
        · exact absurd hd (by have := h.2.2.1; omega)
      · rcases H3.out with h | h
        · exact .inr (.inl ⟨decide_eq_false hd, h.2.2.1.resolve_left hd, h.2.2.2⟩)
        · exact .inr (.inr ⟨decide_eq_false hd, h.2.2.2.1.1, h.2.2.2.1.2, h.2.2.2.2⟩)
    have HS := Aside0.mk hsplit
    clear hsplit H3
    have hao := HAO.out
    clear HAO
    subst hao
    have hM0 : MS w ga gb gr (.int .u64 ac) (.bool false) (.int .i64 ah) (.int .u64 al) (.int .i64 an) (.int .i64 ax) (.int .u64 bc) (.bool bo) (.int .i64 bh) (.int .u64 bl) (.int .i64 bn) (.int .i64 bx) (.int .u64 0) (.bool false) (.int .i64 0) (.int .u64 0) (.int .i64 0) (.int .i64 0) W0 := ⟨hA, hBB, hR, hB, Nat.le_of_lt (blk_lt hA)⟩
    have hM := MS.drew hM0
    have hn1 : ga ≠ W0.heap.size := Nat.ne_of_lt (blk_lt hM.a)
    have hn2 : gb ≠ W0.heap.size := Nat.ne_of_lt (blk_lt hM.b)
    have hn3 : gr ≠ W0.heap.size := Nat.ne_of_lt (blk_lt hM.r)
    have hn4 : ga ≤ W0.heap.size := hM.le
    clear hA hBB hR hB
    go_region_held3 (fun w' => w'.cell? ⟨ga, 0, none⟩ = some (.int .u64 ac) ∧ w'.cell? ⟨ga, 1, none⟩ = some (.bool false) ∧ w'.cell? ⟨ga, 2, none⟩ = some (.int .i64 ah) ∧ w'.cell? ⟨ga, 3, none⟩ = some (.int .u64 al) ∧ w'.cell? ⟨ga, 4, none⟩ = some (.int .i64 an) ∧ w'.cell? ⟨ga, 5, none⟩ = some (.int .i64 ax) ∧ w'.cell? ⟨gb, 0, none⟩ = some (.int .u64 bc) ∧ w'.cell? ⟨gb, 1, none⟩ = some (.bool bo) ∧ w'.cell? ⟨gb, 2, none⟩ = some (.int .i64 bh) ∧ w'.cell? ⟨gb, 3, none⟩ = some (.int .u64 bl) ∧ w'.cell? ⟨gb, 4, none⟩ = some (.int .i64 bn) ∧ w'.cell? ⟨gb, 5, none⟩ = some (.int .i64 bx) ∧ MS w ga gb gr (.int .u64 ac) (.bool false) (.int .i64 ah) (.int .u64 al) (.int .i64 an) (.int .i64 ax) (.int .u64 bc) (.bool bo) (.int .i64 bh) (.int .u64 bl) (.int .i64 bn) (.int .i64 bx) (.int .u64 0) (.bool false) (.int .i64 0) (.int .u64 0) (.int .i64 0) (.int .i64 0) w') (first | (with_reducible exact MS.s hM3) | (with_reducible exact MS.s (MS.alloc hM3 _)) | (with_reducible exact MS.s (MS.set hM3 hn1 hn2 hn3 hn4 _ _ _ _ _ _)) | (with_reducible exact MS.s hM) | (with_reducible exact MS.s (MS.drew (MS.alloc hM0 _))) ) (first | (go_at_call 50; refine (add_c ⟨by assumption, by assumption⟩ ⟨by assumption, by assumption⟩).mono ?_; rintro e w3 ⟨rfl, hb3⟩; first | (with_reducible have hM3 := MS.step hM hb3) | (with_reducible have hM3 := MS.step (MS.drew (MS.alloc hM0 _)) hb3); (try (have h7 : w3.heap[W0.heap.size]? = some (.cells #[.int .u64 0, .bool false, .int .i64 0, .int .u64 0, .int .i64 0, .int .i64 0] 54 (0, 0)) := (hb3.block W0.heap.size (by (show W0.heap.size < (W0.alloc _).heap.size); rw [World.size_alloc]; exact Nat.lt_succ_self _)).trans (al_new (W := W0) (k := W0.heap.size) rfl); have e7_0 : w3.cell? ⟨W0.heap.size, 0, none⟩ = some (.int .u64 0) := (blk_cell h7 0).trans rfl; have f7_0 := blk_frozen h7 0; have e7_1 : w3.cell? ⟨W0.heap.size, 1, none⟩ = some (.bool false) := (blk_cell h7 1).trans rfl; have f7_1 := blk_frozen h7 1; have e7_2 : w3.cell? ⟨W0.heap.size, 2, none⟩ = some (.int .i64 0) := (blk_cell h7 2).trans rfl; have f7_2 := blk_frozen h7 2; have e7_3 : w3.cell? ⟨W0.heap.size, 3, none⟩ = some (.int .u64 0) := (blk_cell h7 3).trans rfl; have f7_3 := blk_frozen h7 3; have e7_4 : w3.cell? ⟨W0.heap.size, 4, none⟩ = some (.int .i64 0) := (blk_cell h7 4).trans rfl; have f7_4 := blk_frozen h7 4; have e7_5 : w3.cell? ⟨W0.heap.size, 5, none⟩ = some (.int .i64 0) := (blk_cell h7 5).trans rfl; have f7_5 := blk_frozen h7 5))) | (go_at_call_of 51 an; refine (min_c an bn _).mono ?_; rintro e w4 ⟨rfl, rfl⟩) | (go_at_call_of 51 ax; refine (max_c ax bx _).mono ?_; rintro e w4 ⟨rfl, rfl⟩))
    all_goals first
      | (skip
         have hX := MS.set hM3 hn1 hn2 hn3 hn4 (.int .u64 (IntKind.u64.wrap (ac + bc))) (.bool bo) (.int .i64 (addHi ah al bh bl)) (.int .u64 (addLo al bl)) (.int .i64 (minF an bn)) (.int .i64 (maxF ax bx))
         have hO := blk_six h7 (.int .u64 (IntKind.u64.wrap (ac + bc))) (.bool bo) (.int .i64 (addHi ah al bh bl)) (.int .u64 (addLo al bl)) (.int .i64 (minF an bn)) (.int .i64 (maxF ax bx))
         have hne := hn3
         have hleG := hn4
         clear hM hM0 hM3 hn1 hn2 hn3 hn4 h7 e7_0 f7_0 e7_1 f7_1 e7_2 f7_2 e7_3 f7_3 e7_4 f7_4 e7_5 f7_5
         generalize ((((((w3.setCell ⟨W0.heap.size, 0, none⟩ (.int .u64 (IntKind.u64.wrap (ac + bc)))).setCell ⟨W0.heap.size, 1, none⟩ (.bool bo)).setCell ⟨W0.heap.size, 2, none⟩ (.int .i64 (addHi ah al bh bl))).setCell ⟨W0.heap.size, 3, none⟩ (.int .u64 (addLo al bl))).setCell ⟨W0.heap.size, 4, none⟩ (.int .i64 (minF an bn))).setCell ⟨W0.heap.size, 5, none⟩ (.int .i64 (maxF ax bx))) = X at *
         generalize W0.heap.size = G at *
         have o0 : X.cell? ⟨G, 0, none⟩ = some (.int .u64 (IntKind.u64.wrap (ac + bc))) := (blk_cell hO 0).trans rfl
         have o1 : X.cell? ⟨G, 1, none⟩ = some (.bool bo) := (blk_cell hO 1).trans rfl
         have o2 : X.cell? ⟨G, 2, none⟩ = some (.int .i64 (addHi ah al bh bl)) := (blk_cell hO 2).trans rfl
         have o3 : X.cell? ⟨G, 3, none⟩ = some (.int .u64 (addLo al bl)) := (blk_cell hO 3).trans rfl
         have o4 : X.cell? ⟨G, 4, none⟩ = some (.int .i64 (minF an bn)) := (blk_cell hO 4).trans rfl
         have o5 : X.cell? ⟨G, 5, none⟩ = some (.int .i64 (maxF ax bx)) := (blk_cell hO 5).trans rfl
         have r0 : X.cell? ⟨gr, 0, none⟩ = some (.int .u64 0) := (blk_cell hX.r 0).trans rfl
         have r1 : X.cell? ⟨gr, 1, none⟩ = some (.bool false) := (blk_cell hX.r 1).trans rfl
         have r2 : X.cell? ⟨gr, 2, none⟩ = some (.int .i64 0) := (blk_cell hX.r 2).trans rfl
         have r3 : X.cell? ⟨gr, 3, none⟩ = some (.int .u64 0) := (blk_cell hX.r 3).trans rfl
         have r4 : X.cell? ⟨gr, 4, none⟩ = some (.int .i64 0) := (blk_cell hX.r 4).trans rfl
         have r5 : X.cell? ⟨gr, 5, none⟩ = some (.int .i64 0) := (blk_cell hX.r 5).trans rfl
         have q0 := blk_frozen hO 0
         have q1 := blk_frozen hO 1
         have p0 := blk_frozen hX.r 0
         have p1 := blk_frozen hX.r 1
         have p2 := blk_frozen hX.r 2
         have p3 := blk_frozen hX.r 3
         have p4 := blk_frozen hX.r 4
         have p5 := blk_frozen hX.r 5
         have a0 : X.cell? ⟨ga, 0, none⟩ = some (.int .u64 ac) := (blk_cell hX.a 0).trans rfl
         have hr2 : ((X.setCell ⟨G, 0, none⟩ (.int .u64 18446744073709551615)).setCell ⟨G, 1, none⟩ (.bool true)).heap[gr]? = some (.cells #[.int .u64 0, .bool false, .int .i64 0, .int .u64 0, .int .i64 0, .int .i64 0] 54 (0, 0)) := (Below.heap_setCell _ _ _ _ hne).trans ((Below.heap_setCell _ _ _ _ hne).trans hX.r)
         have hgG : ga ≤ G := hleG
         have hbe := hX.be
         have hrr := hX.r
         have hgr : ga ≤ gr := hgrr
         clear hX hO
         rcases HS.out with ⟨hd, rfl⟩ | ⟨hd, hbo, rfl⟩ | ⟨hd, _, hbo, rfl⟩
         · clear HS
           go_wp2
           refine bodyPost_ret (results_cell_row rfl _ _ gr 54 #[.int .u64 18446744073709551615, .bool true, .int .i64 (addHi ah al bh bl), .int .u64 (addLo al bl), .int .i64 (minF an bn), .int .i64 (maxF ax bx)] (0, 0) _ rfl (blk_six hr2 _ _ _ _ _ _) Try.underlying54 rfl (by kernel_rfl)) rfl ?_
           exact ⟨rfl, by rw [HGA.out]; exact below_six ((hbe.setCell (p := ⟨G, 0, none⟩) hgG _).setCell (p := ⟨G, 1, none⟩) hgG _) hgr _ _ _ _ _ _⟩
         · simp only [Bool.false_or] at hbo
           subst hbo
           clear HS
           go_wp2
           refine bodyPost_ret (results_cell_row rfl _ _ gr 54 #[.int .u64 18446744073709551615, .bool true, .int .i64 (addHi ah al bh bl), .int .u64 (addLo al bl), .int .i64 (minF an bn), .int .i64 (maxF ax bx)] (0, 0) _ rfl (blk_six hr2 _ _ _ _ _ _) Try.underlying54 rfl (by kernel_rfl)) rfl ?_
           exact ⟨rfl, by rw [HGA.out]; exact below_six ((hbe.setCell (p := ⟨G, 0, none⟩) hgG _).setCell (p := ⟨G, 1, none⟩) hgG _) hgr _ _ _ _ _ _⟩
         · subst hbo
           clear HS
           go_wp2
           refine bodyPost_ret (results_cell_row rfl _ _ gr 54 #[.int .u64 (IntKind.u64.wrap (ac + bc)), .bool false, .int .i64 (addHi ah al bh bl), .int .u64 (addLo al bl), .int .i64 (minF an bn), .int .i64 (maxF ax bx)] (0, 0) _ rfl (blk_six hrr _ _ _ _ _ _) Try.underlying54 rfl (by kernel_rfl)) rfl ?_
           exact ⟨rfl, by rw [HGA.out]; exact below_six (hbe) hgr _ _ _ _ _ _⟩)
      | (skip
         have hX := MS.alloc hM3 (.cells #[.int .u64 (IntKind.u64.wrap (ac + bc)), .bool bo, .int .i64 (addHi ah al bh bl), .int .u64 (addLo al bl), .int .i64 (minF an bn), .int .i64 (maxF ax bx)] 54)
         have hO : (w3.alloc (.cells #[.int .u64 (IntKind.u64.wrap (ac + bc)), .bool bo, .int .i64 (addHi ah al bh bl), .int .u64 (addLo al bl), .int .i64 (minF an bn), .int .i64 (maxF ax bx)] 54)).heap[w3.heap.size]? = some (.cells #[.int .u64 (IntKind.u64.wrap (ac + bc)), .bool bo, .int .i64 (addHi ah al bh bl), .int .u64 (addLo al bl), .int .i64 (minF an bn), .int .i64 (maxF ax bx)] 54 (0, 0)) := al_new rfl
         have hne : gr ≠ w3.heap.size := Nat.ne_of_lt (blk_lt hM3.r)
         have hleG : ga ≤ w3.heap.size := hM3.le
         clear hM hM0 hM3 hn1 hn2 hn3 hn4
         generalize w3.alloc (.cells #[.int .u64 (IntKind.u64.wrap (ac + bc)), .bool bo, .int .i64 (addHi ah al bh bl), .int .u64 (addLo al bl), .int .i64 (minF an bn), .int .i64 (maxF ax bx)] 54) = X at *
         generalize w3.heap.size = G at *
         have o0 : X.cell? ⟨G, 0, none⟩ = some (.int .u64 (IntKind.u64.wrap (ac + bc))) := (blk_cell hO 0).trans rfl
         have o1 : X.cell? ⟨G, 1, none⟩ = some (.bool bo) := (blk_cell hO 1).trans rfl
         have o2 : X.cell? ⟨G, 2, none⟩ = some (.int .i64 (addHi ah al bh bl)) := (blk_cell hO 2).trans rfl
         have o3 : X.cell? ⟨G, 3, none⟩ = some (.int .u64 (addLo al bl)) := (blk_cell hO 3).trans rfl
         have o4 : X.cell? ⟨G, 4, none⟩ = some (.int .i64 (minF an bn)) := (blk_cell hO 4).trans rfl
         have o5 : X.cell? ⟨G, 5, none⟩ = some (.int .i64 (maxF ax bx)) := (blk_cell hO 5).trans rfl
         have r0 : X.cell? ⟨gr, 0, none⟩ = some (.int .u64 0) := (blk_cell hX.r 0).trans rfl
         have r1 : X.cell? ⟨gr, 1, none⟩ = some (.bool false) := (blk_cell hX.r 1).trans rfl
         have r2 : X.cell? ⟨gr, 2, none⟩ = some (.int .i64 0) := (blk_cell hX.r 2).trans rfl
         have r3 : X.cell? ⟨gr, 3, none⟩ = some (.int .u64 0) := (blk_cell hX.r 3).trans rfl
         have r4 : X.cell? ⟨gr, 4, none⟩ = some (.int .i64 0) := (blk_cell hX.r 4).trans rfl
         have r5 : X.cell? ⟨gr, 5, none⟩ = some (.int .i64 0) := (blk_cell hX.r 5).trans rfl
         have q0 := blk_frozen hO 0
         have q1 := blk_frozen hO 1
         have p0 := blk_frozen hX.r 0
         have p1 := blk_frozen hX.r 1
         have p2 := blk_frozen hX.r 2
         have p3 := blk_frozen hX.r 3
         have p4 := blk_frozen hX.r 4
         have p5 := blk_frozen hX.r 5
         have a0 : X.cell? ⟨ga, 0, none⟩ = some (.int .u64 ac) := (blk_cell hX.a 0).trans rfl
         have hr2 : ((X.setCell ⟨G, 0, none⟩ (.int .u64 18446744073709551615)).setCell ⟨G, 1, none⟩ (.bool true)).heap[gr]? = some (.cells #[.int .u64 0, .bool false, .int .i64 0, .int .u64 0, .int .i64 0, .int .i64 0] 54 (0, 0)) := (Below.heap_setCell _ _ _ _ hne).trans ((Below.heap_setCell _ _ _ _ hne).trans hX.r)
         have hgG : ga ≤ G := hleG
         have hbe := hX.be
         have hrr := hX.r
         have hgr : ga ≤ gr := hgrr
         clear hX hO
         rcases HS.out with ⟨hd, rfl⟩ | ⟨hd, hbo, rfl⟩ | ⟨hd, _, hbo, rfl⟩
         · clear HS
           go_wp2
           refine bodyPost_ret (results_cell_row rfl _ _ gr 54 #[.int .u64 18446744073709551615, .bool true, .int .i64 (addHi ah al bh bl), .int .u64 (addLo al bl), .int .i64 (minF an bn), .int .i64 (maxF ax bx)] (0, 0) _ rfl (blk_six hr2 _ _ _ _ _ _) Try.underlying54 rfl (by kernel_rfl)) rfl ?_
           exact ⟨rfl, by rw [HGA.out]; exact below_six ((hbe.setCell (p := ⟨G, 0, none⟩) hgG _).setCell (p := ⟨G, 1, none⟩) hgG _) hgr _ _ _ _ _ _⟩
         · simp only [Bool.false_or] at hbo
           subst hbo
           clear HS
           go_wp2
           refine bodyPost_ret (results_cell_row rfl _ _ gr 54 #[.int .u64 18446744073709551615, .bool true, .int .i64 (addHi ah al bh bl), .int .u64 (addLo al bl), .int .i64 (minF an bn), .int .i64 (maxF ax bx)] (0, 0) _ rfl (blk_six hr2 _ _ _ _ _ _) Try.underlying54 rfl (by kernel_rfl)) rfl ?_
           exact ⟨rfl, by rw [HGA.out]; exact below_six ((hbe.setCell (p := ⟨G, 0, none⟩) hgG _).setCell (p := ⟨G, 1, none⟩) hgG _) hgr _ _ _ _ _ _⟩
         · subst hbo
           clear HS
           go_wp2
           refine bodyPost_ret (results_cell_row rfl _ _ gr 54 #[.int .u64 (IntKind.u64.wrap (ac + bc)), .bool false, .int .i64 (addHi ah al bh bl), .int .u64 (addLo al bl), .int .i64 (minF an bn), .int .i64 (maxF ax bx)] (0, 0) _ rfl (blk_six hrr _ _ _ _ _ _) Try.underlying54 rfl (by kernel_rfl)) rfl ?_
           exact ⟨rfl, by rw [HGA.out]; exact below_six (hbe) hgr _ _ _ _ _ _⟩)
end Go.Proofs.Ytoikaegohkolkaa.Top
