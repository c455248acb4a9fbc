/-
  simfs: a file system's box, made and plan; conditions: those that each theorem states.
-/
import Derived.Test.YtnmiipcoojijiaaDoorZPlain
import Derived.Maps.OwnSet
import Derived.Maps.Views
import Derived.Maps.RangeWalk
import Derived.Sort.KeysCollected
namespace Go.Proofs.YtnmiipcoojijiaaDoor.Top
set_option linter.unusedSimpArgs false
set_option linter.unusedVariables false
open Go.RowKit Go.Proofs.YtnmiipcoojijiaaDoorW.PrintWords Go.Proofs.YtnmiipcoojijiaaDoorW.PrintLast Go.Proofs.YtnmiipcoojijiaaDoorW.PrintMore Go.Proofs.YtnmiipcoojijiaaDoor.Plain Go.Proofs.YtnmiipcoojijiaaDoor.Fns
/-- A file system's box: room, directory, synced directory, pending acts, whether a failure is planned, behind how many calls, which. -/
structure FsB (fb : Nat) (room : Int) (vd vo vp : Value) (pl : Bool) (af er : Int) (W : World) : Prop where
  b : W.heap[fb]? = some (.cells #[.int .i64 room, vd, vo, vp, .bool pl, .int .i64 af, .int .i64 er] 50 (0, 0))
theorem made_c {w : World} {fb : Nat} {room : Int} {vd vo vp : Value} {pl : Bool} {af er : Int} (h : FsB fb room vd vo vp pl af er w) (hr : 1 ≤ room) : Calls Tryd.prog 17 #[.pointer (some ⟨fb, 0, none⟩)] w fun e w' => e = .returned (.bool true) ∧ Below w.heap.size w w' := by
  have c0 : w.cell? ⟨fb, 0, none⟩ = some (.int .i64 room) := (blk_cell h.b 0).trans rfl
  have t1 : decide (0 < room) = true := decide_eq_true (by omega)
  go_enter Tryd.func17, Tryd.ntmps17
  go_wp2_with fail
  go_ret
  exact ⟨rfl, Below.refl _ _⟩
/-- What a plan says of a call that would be OK: its word; whether one is planned still, and behind how many calls. -/
def planF (pl : Bool) (af er : Int) : Int × Bool × Int := if pl = false then (0, false, af) else if 0 < af then (0, true, af - 1) else (er, false, af)
set_option maxRecDepth 100000 in
set_option maxHeartbeats 2000000 in
theorem plan_c {w : World} {fb : Nat} {room : Int} {vd vo vp : Value} {pl : Bool} {af er : Int} (h : FsB fb room vd vo vp pl af er w) (ha : -9223372036854775808 ≤ af ∧ af < 9223372036854775808) :
    Calls Tryd.prog 35 #[.pointer (some ⟨fb, 0, none⟩)] w fun e w' => e = .returned (.int .i64 (planF pl af er).1) ∧ FsB fb room vd vo vp (planF pl af er).2.1 (planF pl af er).2.2 er w' ∧ w.grownBy w' (some fb) := by
  have c4 : w.cell? ⟨fb, 4, none⟩ = some (.bool pl) := (blk_cell h.b 4).trans rfl
  have c5 : w.cell? ⟨fb, 5, none⟩ = some (.int .i64 af) := (blk_cell h.b 5).trans rfl
  have c6 : w.cell? ⟨fb, 6, none⟩ = some (.int .i64 er) := (blk_cell h.b 6).trans rfl
  have f4 := blk_frozen h.b 4
  have f5 := blk_frozen h.b 5
  have HB := Aside0.mk h.b
  have grow : ∀ i u, w.grownBy (w.setCell ⟨fb, i, none⟩ u) (some fb) := fun i u => ⟨rfl, rfl, rfl, by simp, fun k hk hne => Below.heap_setCell _ _ _ _ (fun e => hne (by rw [show k = fb from e]))⟩
  have HG := Aside0.mk grow
  clear grow h
  cases pl with
  | false =>
    have e : planF false af er = (0, false, af) := rfl
    rw [e]
    go_enter Tryd.func35, Tryd.ntmps35
    go_wp2_with fail
    go_ret
    exact ⟨rfl, ⟨HB.out⟩, rfl, rfl, rfl, Nat.le_refl _, fun _ _ _ => rfl⟩
  | true =>
    by_cases h0 : 0 < af
    · have e : planF true af er = (0, true, af - 1) := by unfold planF; rw [if_neg (by simp), if_pos h0]
      rw [e]
      have t1 : decide (0 < af) = true := decide_eq_true h0
      have hw : IntKind.i64.wrap (af - 1) = af - 1 := by rw [IntKind.wrap_i64]; omega
      have hw2 : wrap64 (af - 1) = af - 1 := by unfold wrap64; omega
      clear e
      go_enter Tryd.func35, Tryd.ntmps35
      go_wp2_with fail
      go_ret
      exact ⟨rfl, ⟨blk_put HB.out 5 (.int .i64 (af - 1)) rfl⟩, HG.out 5 _⟩
    · have e : planF true af er = (er, false, af) := by unfold planF; rw [if_neg (by simp), if_neg h0]
      rw [e]
      have t1 : decide (0 < af) = false := decide_eq_false h0
      clear e
      go_enter Tryd.func35, Tryd.ntmps35
      go_wp2_with fail
      go_ret
      exact ⟨rfl, ⟨blk_put HB.out 4 (.bool false) rfl⟩, HG.out 4 _⟩
/-- A digit as a text. -/
def digS (n : Nat) : ByteArray := ⟨#[UInt8.ofNat (48 + n)]⟩
/-- A segment's name. -/
def segS (n : Nat) : ByteArray := ⟨#[119, 97, 108, 45, UInt8.ofNat (48 + n)]⟩
set_option maxRecDepth 100000 in
set_option maxHeartbeats 2000000 in
theorem small_c {w : World} {n : Nat} (h : 1 ≤ n) (h2 : n ≤ 7) : Calls Tryd.prog 83 #[.int .i64 (n : Int)] w fun e w' => e = .returned (.string (digS n)) ∧ w' = w := by
  obtain rfl | rfl | rfl | rfl | rfl | rfl | rfl : n = 1 ∨ n = 2 ∨ n = 3 ∨ n = 4 ∨ n = 5 ∨ n = 6 ∨ n = 7 := by omega
  all_goals
    go_enter Tryd.func83, Tryd.ntmps83
    go_wp2_with fail
    go_ret
    exact ⟨rfl, rfl⟩
theorem itoa_c {w : World} {n : Nat} (h : 1 ≤ n) (h2 : n ≤ 7) : Calls Tryd.prog 32 #[.int .i64 (n : Int)] w fun e w' => e = .returned (.string (digS n)) ∧ w' = w := by
  have H := Aside0.mk (fun w : World => small_c (w := w) h h2)
  have t1 : decide ((0 : Int) ≤ (n : Int)) = true := decide_eq_true (by omega)
  have t2 : decide ((n : Int) < 100) = true := decide_eq_true (by omega)
  have t3 : decide (n < 100) = true := decide_eq_true (by omega)
  have hf : ∀ w : World, Calls Tryd.prog 72 #[.int .i64 (n : Int), .int .i64 10] w fun e w' => e = .returned (.string (digS n)) ∧ w' = w := fun w => by
    go_enter Tryd.func72, Tryd.ntmps72
    go_wp2_with (first | (go_at_call 83; refine (H.out _).mono ?_; rintro e w2 ⟨rfl, rfl⟩) | fail)
    go_ret
    exact ⟨rfl, rfl⟩
  have HF := Aside0.mk hf
  have hi : ∀ w : World, Calls Tryd.prog 52 #[.int .i64 (n : Int)] w fun e w' => e = .returned (.string (digS n)) ∧ w' = w := fun w => by
    go_enter Tryd.func52, Tryd.ntmps52
    go_wp2_with (first | (go_at_call 72; refine (HF.out _).mono ?_; rintro e w2 ⟨rfl, rfl⟩) | fail)
    go_ret
    exact ⟨rfl, rfl⟩
  have HI := Aside0.mk hi
  clear hf hi
  go_enter Tryd.func32, Tryd.ntmps32
  go_wp2_with (first | (go_at_call 52; refine (HI.out _).mono ?_; rintro e w2 ⟨rfl, rfl⟩) | fail)
  go_ret
  exact ⟨rfl, rfl⟩
theorem seg_app (n : Nat) : (⟨#[119, 97, 108, 45]⟩ : ByteArray) ++ digS n = segS n := rfl
set_option maxRecDepth 100000 in
set_option maxHeartbeats 2000000 in
theorem name_c {w : World} {n : Nat} (h : 1 ≤ n) (h2 : n ≤ 7) : Calls Tryd.prog 18 #[.string ⟨#[119, 97, 108, 45]⟩, .int .i64 (n : Int)] w fun e w' => e = .returned (.string (segS n)) ∧ w' = w := by
  have H := Aside0.mk (fun w : World => itoa_c (w := w) h h2)
  have t1 : decide ((n : Int) < 1) = false := decide_eq_false (by omega)
  have t2 : decide ((1099511627776 : Int) < (n : Int)) = false := decide_eq_false (by omega)
  have t3 : decide (1099511627776 < n) = false := decide_eq_false (by omega)
  have t4 : decide (n < 1) = false := decide_eq_false (by omega)
  have t5 : decide (n = 0) = false := decide_eq_false (by omega)
  have t6 : ¬ n = 0 := by omega
  go_enter Tryd.func18, Tryd.ntmps18
  go_wp2_with (first | (go_at_call 32; refine (H.out _).mono ?_; rintro e w2 ⟨rfl, rfl⟩) | fail)
  go_ret
  exact ⟨by rw [← seg_app]; rfl, rfl⟩
theorem isname_f {n : Nat} (h : 1 ≤ n) (h2 : n ≤ 7) : Lib.simfs_isName.f 8 (segS n) = some true := by
  obtain rfl | rfl | rfl | rfl | rfl | rfl | rfl : n = 1 ∨ n = 2 ∨ n = 3 ∨ n = 4 ∨ n = 5 ∨ n = 6 ∨ n = 7 := by omega
  all_goals decide +kernel
theorem isname_c {w : World} {n : Nat} (h : 1 ≤ n) (h2 : n ≤ 7) : Calls Tryd.prog 33 #[.string (segS n)] w fun e w' => e = .returned (.bool true) ∧ Below w.heap.size w w' :=
  (Lib.simfs_isName.calls 8 (segS n) true w (isname_f h h2)).mono fun e w' ⟨h1, h2⟩ => ⟨h1, h2.below⟩
/-- Names of different segments differ. -/
theorem seg_ne {n m : Nat} (h : 1 ≤ n) (h2 : n ≤ 7) (h3 : 1 ≤ m) (h4 : m ≤ 7) (he : segS n = segS m) : n = m := by
  obtain rfl | rfl | rfl | rfl | rfl | rfl | rfl : n = 1 ∨ n = 2 ∨ n = 3 ∨ n = 4 ∨ n = 5 ∨ n = 6 ∨ n = 7 := by omega
  all_goals
    obtain rfl | rfl | rfl | rfl | rfl | rfl | rfl : m = 1 ∨ m = 2 ∨ m = 3 ∨ m = 4 ∨ m = 5 ∨ m = 6 ∨ m = 7 := by omega
    all_goals first | rfl | (exact absurd he (by decide +kernel))
set_option maxRecDepth 100000 in
set_option maxHeartbeats 2000000 in
theorem fsnew_c {w : World} {room : Int} (h : 1 ≤ room) : Calls Tryd.prog 4 #[.int .i64 room] w fun e w' => e = .returned (.tuple #[.pointer (some ⟨w.heap.size + 2, 0, none⟩), .int .i64 0]) ∧ FsB (w.heap.size + 2) room (.map (some w.heap.size)) (.map (some (w.heap.size + 1))) (.slice none 0 0) false 0 0 w' ∧ w'.heap[w.heap.size]? = some (.map #[] 0) ∧ w'.heap[w.heap.size + 1]? = some (.map #[] 0) ∧ Below w.heap.size w w' := by
  have t1 : decide (room < 1) = false := decide_eq_false (by omega)
  have hmm := @run_makeMap Tryd.prog
  go_enter Tryd.func4, Tryd.ntmps4
  go_wp2_with fail
  go_ret2
  have h1 := (Below.refl _ w).alloc (Nat.le_refl _) (.map #[] 0)
  have h2 := h1.alloc h1.size (.map #[] 0)
  have h3 := h2.alloc h2.size (.cells #[.int .i64 room, .map (some w.heap.size), .map (some (w.heap.size + 1)), .slice none 0 0, .bool false, .int .i64 0, .int .i64 0] 50)
  have n1 := al_new (W := w) (o := .map #[] 0) (k := w.heap.size) rfl
  have n2 := al_new (W := w.alloc (.map #[] 0)) (o := .map #[] 0) (k := w.heap.size + 1) (by rw [World.size_alloc])
  have n3 := al_new (W := (w.alloc (.map #[] 0)).alloc (.map #[] 0)) (o := .cells #[.int .i64 room, .map (some w.heap.size), .map (some (w.heap.size + 1)), .slice none 0 0, .bool false, .int .i64 0, .int .i64 0] 50) (k := w.heap.size + 2) (by rw [World.size_alloc, World.size_alloc])
  exact ⟨rfl, ⟨n3⟩, al_old (al_old n1 _) _, al_old n2 _, h3⟩
end Go.Proofs.YtnmiipcoojijiaaDoor.Top
namespace Go.Proofs.YtnmiipcoojijiaaDoor.Top
set_option linter.unusedSimpArgs false
set_option linter.unusedVariables false
open Go.RowKit Go.Proofs.YtnmiipcoojijiaaDoorW.PrintWords Go.Proofs.YtnmiipcoojijiaaDoorW.PrintLast Go.Proofs.YtnmiipcoojijiaaDoorW.PrintMore Go.Proofs.YtnmiipcoojijiaaDoor.Plain Go.Proofs.YtnmiipcoojijiaaDoor.Fns Go.Maps
/-- A name as a map's key. -/
def segK (n : Nat) : Lit := .string (segS n).data.toList
/-- A pointer to a block. -/
def ptrV (b : Nat) : Value := .pointer (some ⟨b, 0, none⟩)
/-- How a map's element reads: as itself. -/
def Rp (v : Value) : Option (DataW Value × List MemPlace) := some (.held v, [])
/-- What a map of names says, as a function of segments' numbers. -/
structure NamesD (D : DataW Value) (m : Nat → Option Nat) : Prop where
  only : ∀ kl, Maps.has D kl = true → ∃ n b, m n = some b ∧ kl = segK n
  all : ∀ n b, m n = some b → 1 ≤ n ∧ n ≤ 7 ∧ Maps.has D (segK n) = true ∧ ∀ zd, D.atKey (segK n) zd = .held (ptrV b)
/-- A map of names in memory, of at most k entries. -/
def MapAt (W : World) (mb k : Nat) (m : Nat → Option Nat) : Prop := ∃ D, W.ownsMap Tryd.prog 9 Rp mb k D ∧ NamesD D m
/-- One more name. -/
def upd (m : Nat → Option Nat) (n b : Nat) : Nat → Option Nat := fun j => if j = n then some b else m j
def nob : Nat → Option Nat := fun _ => none
theorem upd_same (m : Nat → Option Nat) (n b : Nat) : upd m n b n = some b := by unfold upd; rw [if_pos rfl]
theorem upd_other {m : Nat → Option Nat} {n b j : Nat} (h : j ≠ n) : upd m n b j = m j := by unfold upd; rw [if_neg h]
theorem upd_some {m : Nat → Option Nat} {n b j c : Nat} (h : upd m n b j = some c) : (j = n ∧ c = b) ∨ (j ≠ n ∧ m j = some c) := by
  unfold upd at h
  by_cases e : j = n
  · rw [if_pos e] at h
    exact .inl ⟨e, by cases h; rfl⟩
  · rw [if_neg e] at h
    exact .inr ⟨e, h⟩
theorem segK_ne {n m : Nat} (h : 1 ≤ n) (h2 : n ≤ 7) (h3 : 1 ≤ m) (h4 : m ≤ 7) (he : segK n = segK m) : n = m := by
  refine seg_ne h h2 h3 h4 ?_
  unfold segK at he
  injection he with he
  have : (segS n).data = (segS m).data := Array.toList_inj.1 he
  cases hs : segS n
  cases ht : segS m
  rw [hs, ht] at this
  exact congrArg ByteArray.mk this
theorem segK_key (n : Nat) : WideAt.IsKeyLit (segK n) := trivial
theorem seg_keyOf {n : Nat} : keyOf Tryd.prog 9 (.string (segS n)) = some (segK n) := by
  unfold keyOf mapKey
  rw [Tryd.underlying9]
  have : (segS n).size ≤ maxLen := by
    have : (segS n).size = 5 := rfl
    rw [this]
    decide
  simp [this, segK]
theorem zeroP (w : World) : (zeroValue 66).run Tryd.prog w = .ok (.pointer none) w := by kernel_rfl
theorem NamesD.none : NamesD (.map []) nob := ⟨fun kl h => (by cases h), fun n b h => (by cases h)⟩
theorem MapAt.made {W : World} {mb : Nat} (h : W.heap[mb]? = some (.map #[] 0)) : MapAt W mb 0 nob := by
  refine ⟨.map [], ?_, NamesD.none⟩
  exact ⟨#[], 0, h, ⟨by simp, MapKept.stamped_empty 0, by simp⟩, Nat.le_refl _, rfl⟩
theorem MapAt.lt {W : World} {mb k : Nat} {m : Nat → Option Nat} (h : MapAt W mb k m) : mb < W.heap.size := by
  obtain ⟨D, h1, _⟩ := h
  exact h1.lt
/-- The same block in another world. -/
theorem MapAt.move {W W1 : World} {mb k : Nat} {m : Nat → Option Nat} (h : MapAt W mb k m) (he : W1.heap[mb]? = W.heap[mb]?) : MapAt W1 mb k m := by
  obtain ⟨D, ⟨es, clock, hb, F, hs, hD⟩, hn⟩ := h
  exact ⟨D, ⟨es, clock, he.trans hb, F, hs, hD⟩, hn⟩
theorem MapAt.isMap {W : World} {mb k : Nat} {m : Nat → Option Nat} (h : MapAt W mb k m) : ∃ es clock, W.heap[mb]? = some (.map es clock) := by
  obtain ⟨D, ⟨es, clock, hb, _⟩, _⟩ := h
  exact ⟨es, clock, hb⟩
set_option maxRecDepth 100000 in
theorem MapAt.look {W : World} {mb k : Nat} {m : Nat → Option Nat} (h : MapAt W mb k m) {n : Nat} (h1 : 1 ≤ n) (h2 : n ≤ 7) :
    (Instr.lookup 47 (.map (some mb)) (.string (segS n)) false).run Tryd.prog W = .ok (match m n with | some b => ptrV b | none => .pointer none) W := by
  obtain ⟨D, ho, hn⟩ := h
  obtain ⟨v, ps, hrun, hv⟩ := ho.lookup (string_keyed Tryd.underlying9) Tryd.underlying47 (zeroP W) (zd := .held (.pointer none)) (zp := []) rfl seg_keyOf
  rw [hrun]
  have hv' : DataW.held v = D.atKey (segK n) (.held (.pointer none)) := by
    have := Option.some.inj hv
    exact congrArg Prod.fst this
  cases hm : m n with
  | some b =>
    rw [(hn.all n b hm).2.2.2] at hv'
    injection hv' with hv'
    rw [hv']
  | none =>
    have hno : Maps.has D (segK n) = false := by
      cases hh : Maps.has D (segK n) with
      | false => rfl
      | true =>
        obtain ⟨j, b, hj, e⟩ := hn.only _ hh
        have hjb := hn.all j b hj
        have := segK_ne h1 h2 hjb.1 hjb.2.1 e
        subst this
        rw [hm] at hj
        cases hj
    rw [atKey_of_not_has hno] at hv'
    injection hv' with hv'
    rw [hv']
set_option maxRecDepth 100000 in
theorem NamesD.put {D : DataW Value} {m : Nat → Option Nat} (hD : IsMap D) (h : NamesD D m) {n : Nat} (h1 : 1 ≤ n) (h2 : n ≤ 7) (b : Nat) : NamesD (D.put (segK n) (.held (ptrV b))) (upd m n b) := by
  refine ⟨fun kl hk => ?_, fun j c hj => ?_⟩
  · by_cases e : kl = segK n
    · exact ⟨n, b, upd_same _ _ _, e⟩
    · rw [has_put_other e] at hk
      obtain ⟨j, c, hj, ej⟩ := h.only kl hk
      refine ⟨j, c, ?_, ej⟩
      rw [upd_other (fun en => e (by rw [ej, en]))]
      exact hj
  · rcases upd_some hj with ⟨rfl, rfl⟩ | ⟨hne, hj⟩
    · exact ⟨h1, h2, has_put_same hD (segK_key _) _, fun zd => atKey_put_same hD (segK_key _) _ _⟩
    · obtain ⟨q1, q2, q3, q4⟩ := h.all j c hj
      have hk : segK j ≠ segK n := fun e => hne (segK_ne q1 q2 h1 h2 e)
      exact ⟨q1, q2, by rw [has_put_other hk]; exact q3, fun zd => by rw [atKey_put_other hk]; exact q4 zd⟩
set_option maxRecDepth 100000 in
theorem MapAt.store {W : World} {mb k : Nat} {m : Nat → Option Nat} (h : MapAt W mb k m) {n : Nat} (h1 : 1 ≤ n) (h2 : n ≤ 7) (hk : k < 1000) (b : Nat) :
    ∃ W2, (Instr.mapUpdate 47 (.map (some mb)) (.string (segS n)) (ptrV b)).run Tryd.prog W = .ok () W2 ∧ MapAt W2 mb (k + 1) (upd m n b) ∧ W.grownBy W2 (some mb) ∧ W2.heap.size = W.heap.size := by
  obtain ⟨D, ho, hn⟩ := h
  obtain ⟨W2, hrun, ho2, ht⟩ := ho.store (string_keyed Tryd.underlying9) Tryd.underlying47 (by simp only [maxLen]; omega) (key := .string (segS n)) (val := ptrV b) (kl := segK n) (d := .held (ptrV b)) (ps := []) seg_keyOf rfl
  refine ⟨W2, hrun, ⟨_, ho2, hn.put ho.isMap h1 h2 b⟩, ?_, ?_⟩
  · obtain ⟨es, clock, es', clock', hb, rfl⟩ := ht
    exact ⟨rfl, rfl, rfl, by simp [ChangeMaps.setBlock], fun i _ hi => ChangeMaps.heap_setBlock_other hb _ (fun e => hi (by rw [e]))⟩
  · obtain ⟨es, clock, es', clock', hb, rfl⟩ := ht
    simp [ChangeMaps.setBlock]
theorem MapAt.len {W : World} {mb k : Nat} {m : Nat → Option Nat} (h : MapAt W mb k m) (ty : TypeId) : ∃ z : Nat, z ≤ k ∧ (Builtin.len_ #[47] ty #[.map (some mb)]).run Tryd.prog W = .ok (.int .i64 z) W := by
  obtain ⟨D, ho, hn⟩ := h
  exact ⟨Maps.size D, ho.size_le, ho.len Tryd.underlying47 ty⟩
set_option maxRecDepth 100000 in
/-- A map of one name has one entry. -/
theorem NamesD.single {W : World} {mb k : Nat} {D : DataW Value} (ho : W.ownsMap Tryd.prog 9 Rp mb k D) {n b : Nat} (h : NamesD D (upd nob n b)) : Maps.size D = 1 := by
  obtain ⟨es, rfl, hp, hk⟩ := ho.entries (string_keyed Tryd.underlying9)
  have hall := (h.all n b (upd_same _ _ _)).2.2.1
  have hone : ∀ p ∈ es, p.1 = segK n := fun p hp => by
    have hh : Maps.has (.map es) p.1 = true := by
      rw [has_eq, List.any_eq_true]
      exact ⟨p, hp, WideAt.sameKey_self (hk p hp)⟩
    obtain ⟨j, c, hj, e⟩ := h.only _ hh
    rcases upd_some hj with ⟨rfl, _⟩ | ⟨_, hj⟩
    · exact e
    · cases hj
  rw [size_eq]
  match es, hp, hone, hall with
  | [], _, _, hall => cases hall
  | [p], _, _, _ => rfl
  | p :: q :: r, hp, hone, _ =>
    have := (List.pairwise_cons.1 hp).1 q (by simp)
    exact absurd ((hone p (by simp)).trans (hone q (by simp)).symm) this
end Go.Proofs.YtnmiipcoojijiaaDoor.Top
