/-
  wal.May, and facts in memory; conditions: those that each theorem states.
-/
import Derived.Test.YtnmiipcoojijiaaDoorGH
namespace Go.Proofs.YtnmiipcoojijiaaDoor.Top
set_option linter.unusedSimpArgs false
set_option linter.unusedVariables false
open Go.RowKit Go.Proofs.YtnmiipcoojijiaaDoorW.PrintWords Go.Proofs.YtnmiipcoojijiaaDoorW.PrintLast Go.Proofs.YtnmiipcoojijiaaDoorW.PrintMore Go.Proofs.YtnmiipcoojijiaaDoor.Plain Go.Proofs.YtnmiipcoojijiaaDoor.Fns
/-- A row of texts that can be read. -/
def RdS (w : World) (A : Option Addr) (l : List ByteArray) : Prop := Kd.C Kd.string w A l.length l
theorem RdS.below {w w1 : World} {A : Option Addr} {l : List ByteArray} (h : RdS w A l) (hb : Below w.heap.size w w1) : RdS w1 A l := Kd.C_below h hb
/-- A fact: where its dimensions lie, what it says. -/
structure Fc where
  A : Option Addr
  c : Nat
  s : Lib.S59
def Fc.cells (x : Fc) : List Value := [.slice x.A x.s.f0.length x.c, .int .i64 x.s.f1, .int .i64 x.s.f2]
def Fc.v (x : Fc) : Value := .agg #[.slice x.A x.s.f0.length x.c, .int .i64 x.s.f1, .int .i64 x.s.f2]
structure Fc.rd (W : World) (x : Fc) : Prop where
  k : RdS W x.A x.s.f0
  kc : x.s.f0.length ≤ x.c
  vi : -9223372036854775808 ≤ x.s.f2 ∧ x.s.f2 < 9223372036854775808
theorem Fc.rd.below {W W1 : World} {x : Fc} (h : x.rd W) (hb : Below W.heap.size W W1) : x.rd W1 := ⟨h.k.below hb, h.kc, h.vi⟩
/-- A row of facts. -/
structure FcRow (W : World) (b o : Nat) (xs : List Fc) : Prop where
  at_ : ∀ j (h : j < xs.length), ∀ m u, xs[j].cells[m]? = some u → W.cell? ⟨b, o + j * 3 + m, none⟩ = some u
  rd : ∀ x ∈ xs, x.rd W
theorem FcRow.below {W W1 : World} {b o : Nat} {xs : List Fc} (h : FcRow W b o xs) (hb : Below W.heap.size W W1) : FcRow W1 b o xs :=
  ⟨fun j hj m u hu => cell_below hb (h.at_ j hj m u hu), fun x hx => (h.rd x hx).below hb⟩
theorem FcRow.cells {W : World} {b o : Nat} {xs : List Fc} (h : FcRow W b o xs) {j : Nat} (hj : j < xs.length) :
    W.cell? ⟨b, o + j * 3, none⟩ = some (.slice xs[j].A xs[j].s.f0.length xs[j].c) ∧ W.cell? ⟨b, o + j * 3 + 1, none⟩ = some (.int .i64 xs[j].s.f1) ∧ W.cell? ⟨b, o + j * 3 + 2, none⟩ = some (.int .i64 xs[j].s.f2) :=
  ⟨h.at_ j hj 0 _ rfl, h.at_ j hj 1 _ rfl, h.at_ j hj 2 _ rfl⟩
/-- May a fact be? -/
def mayB (s : Lib.S59) : Bool := Lib.fitsB s.f0 && (decide (0 ≤ s.f1) && decide (s.f1 ≤ 1099511627776))
set_option maxRecDepth 100000 in
theorem kright_c {w : World} {A : Option Addr} {c : Nat} {l : List ByteArray} {t : Int} (h : RdS w A l) :
    Calls Tryd.prog 74 #[.agg #[.slice A l.length c, .int .i64 t, .int .i64 0]] w fun e w' => e = .returned (.bool (Lib.fitsB l && (decide (0 ≤ t) && decide (t ≤ 1099511627776)))) ∧ Below w.heap.size w w' := by
  have HF := Aside0.mk (fun (W : World) (hb : Below w.heap.size w W) => Lib.fits_calls A c l W (h.below hb))
  have HA : ∀ o, Below w.heap.size w (w.alloc o) := fun o => (Below.refl _ w).alloc (Nat.le_refl _) o
  generalize Lib.fitsB l = q at *
  clear h
  cases q with
  | false =>
    go_enter Tryd.func74, Tryd.ntmps74
    go_wp2_with (first | (go_at_call 87; refine (HF.out _ (HA _)).mono ?_; rintro e w2 ⟨rfl, hd⟩) | fail)
    go_ret
    exact ⟨rfl, (HA _).trans (hd.below.mono (HA _).size)⟩
  | true =>
    by_cases h0 : 0 ≤ t
    · have t1 : decide (0 ≤ t) = true := decide_eq_true h0
      by_cases h1 : t ≤ 1099511627776
      · have t2 : decide (t ≤ 1099511627776) = true := decide_eq_true h1
        go_enter Tryd.func74, Tryd.ntmps74
        go_wp2_with (first | (go_at_call 87; refine (HF.out _ (HA _)).mono ?_; rintro e w2 ⟨rfl, hd⟩; have hbd := hd.below; obtain ⟨n, rfl⟩ := hd) | fail)
        go_ret
        exact ⟨by rw [t1, t2]; rfl, (HA _).trans (hbd.mono (HA _).size)⟩
      · have t2 : decide (t ≤ 1099511627776) = false := decide_eq_false h1
        go_enter Tryd.func74, Tryd.ntmps74
        go_wp2_with (first | (go_at_call 87; refine (HF.out _ (HA _)).mono ?_; rintro e w2 ⟨rfl, hd⟩; have hbd := hd.below; obtain ⟨n, rfl⟩ := hd) | fail)
        go_ret
        exact ⟨by rw [t1, t2]; rfl, (HA _).trans (hbd.mono (HA _).size)⟩
    · have t1 : decide (0 ≤ t) = false := decide_eq_false h0
      go_enter Tryd.func74, Tryd.ntmps74
      go_wp2_with (first | (go_at_call 87; refine (HF.out _ (HA _)).mono ?_; rintro e w2 ⟨rfl, hd⟩; have hbd := hd.below; obtain ⟨n, rfl⟩ := hd) | fail)
      go_ret
      exact ⟨by rw [t1]; rfl, (HA _).trans (hbd.mono (HA _).size)⟩
set_option maxRecDepth 100000 in
theorem may_c {w : World} {x : Fc} (h : x.rd w) : Calls Tryd.prog 55 #[x.v] w fun e w' => e = .returned (.bool (mayB x.s)) ∧ Below w.heap.size w w' := by
  have HF := Aside0.mk (fun (W : World) (hb : Below w.heap.size w W) => kright_c (t := x.s.f1) (c := x.c) (h.k.below hb))
  have HA : ∀ o, Below w.heap.size w (w.alloc o) := fun o => (Below.refl _ w).alloc (Nat.le_refl _) o
  unfold Fc.v
  clear h
  go_enter Tryd.func55, Tryd.ntmps55
  go_wp2_with (first | (go_at_call 74; refine (HF.out _ (HA _)).mono ?_; rintro e w2 ⟨rfl, hd⟩) | fail)
  go_ret
  exact ⟨rfl, (HA _).trans (hd.mono (HA _).size)⟩
set_option maxRecDepth 100000 in
theorem notmay_c {w : World} {x : Fc} (h : x.rd w) : Calls Tryd.prog 54 #[x.v] w fun e w' => e = .returned (.bool (!mayB x.s)) ∧ Below w.heap.size w w' := by
  have HF := Aside0.mk (fun (W : World) (hb : Below w.heap.size w W) => may_c (h.below hb))
  have HA : ∀ o, Below w.heap.size w (w.alloc o) := fun o => (Below.refl _ w).alloc (Nat.le_refl _) o
  unfold Fc.v at HF ⊢
  clear h
  generalize mayB x.s = q at *
  go_enter Tryd.func54, Tryd.ntmps54
  go_wp2_with (first | (go_at_call 55; refine (HF.out _ (HA _)).mono ?_; rintro e w2 ⟨rfl, hd⟩) | fail)
  go_ret
  exact ⟨rfl, (HA _).trans (hd.mono (HA _).size)⟩
set_option maxRecDepth 100000 in
set_option maxHeartbeats 2000000 in
theorem fidx_c {w : World} {R : Option Addr} {b o c : Nat} {es : List Fc} (hR : es ≠ [] → R = some ⟨b, o, none⟩) (h : FcRow w b o es) (hn : es.length ≤ 4096) :
    Calls Tryd.prog 73 #[.slice R es.length c, .func (.func 54) #[] #[]] w fun e w' => ∃ z : Int, e = .returned (.int .i64 z) ∧ decide (0 ≤ z) = es.any (fun x => !mayB x.s) ∧ Below w.heap.size w w' := by
  have HR := Aside0.mk hR
  have H := Aside0.mk h
  have HCL := Aside0.mk (fun (W : World) (hb : Below w.heap.size w W) (x : Fc) (hx : x ∈ es) => notmay_c ((h.rd x hx).below hb))
  clear hR h
  go_enter Tryd.func73, Tryd.ntmps73
  go_wp2_with fail
  go_loopw [8] (fun i wr => ∃ j : Nat, j ≤ es.length ∧ i = .int .i64 j ∧ Aside0 (∀ x ∈ es.take j, (!mayB x.s) = false) ∧ Aside0 (Below w.heap.size w wr)) (fun i _ => es.length - (intOf i).toNat)
  case atStart => exact ⟨0, by omega, rfl, ⟨fun x hx => by simp at hx⟩, ⟨Below.refl _ _⟩⟩
  case round =>
    obtain ⟨j, hj, rfl, HP, HB⟩ := hrel
    by_cases hlt : j < es.length
    · have t1 : decide (j < es.length) = true := decide_eq_true hlt
      obtain rfl := HR.out (by intro e; rw [e] at hlt; simp at hlt)
      have hE := H.out.below HB.out
      obtain ⟨x0, x1, x2⟩ := hE.cells hlt
      have hc := HCL.out wr HB.out _ (List.getElem_mem hlt)
      have htk : es.take (j + 1) = es.take j ++ [es[j]] := List.take_succ_eq_append_getElem hlt
      have hmem := List.getElem_mem hlt
      have HTK := Aside0.mk htk
      have HM := Aside0.mk hmem
      generalize es[j] = x at *
      unfold Fc.v at hc
      have HC := Aside0.mk hc
      have hs := HB.out.size
      clear hE htk hmem hc
      cases hp : (!mayB x.s) with
      | false =>
        rw [hp] at HC
        have HPX := Aside0.mk hp
        clear hp
        go_wp2_with (first | (refine HC.out.mono ?_; rintro e w2 ⟨rfl, hb2⟩) | fail)
        go_roundw
        case rel => exact ⟨j + 1, by omega, by go_num, ⟨fun y hy => by
          rw [HTK.out] at hy
          rcases List.mem_append.1 hy with hy | hy
          · exact HP.out y hy
          · rw [List.mem_singleton.1 hy]; exact HPX.out⟩, ⟨HB.out.trans (hb2.mono hs)⟩⟩
        case measure => simp [intOf]; omega
      | true =>
        rw [hp] at HC
        have HPX := Aside0.mk hp
        clear hp
        go_wp2_with (first | (refine HC.out.mono ?_; rintro e w2 ⟨rfl, hb2⟩) | fail)
        go_ret
        exact ⟨(j : Int), rfl, by rw [List.any_eq_true.2 ⟨x, HM.out, HPX.out⟩]; simp, HB.out.trans (hb2.mono hs)⟩
    · obtain rfl : j = es.length := by omega
      have t1 : decide (es.length < es.length) = false := decide_eq_false hlt
      have hp := HP.out
      rw [List.take_length] at hp
      have HPP := Aside0.mk hp
      clear hp
      go_wp2_with fail
      go_ret
      refine ⟨-1, rfl, ?_, HB.out⟩
      have : es.any (fun x => !mayB x.s) = false := by
        cases ha : es.any (fun x => !mayB x.s) with
        | false => rfl
        | true =>
          obtain ⟨x, hx, hpx⟩ := List.any_eq_true.1 ha
          rw [HPP.out x hx] at hpx
          cases hpx
      rw [this]
      rfl
set_option maxRecDepth 100000 in
theorem fcont_c {w : World} {R : Option Addr} {b o c : Nat} {es : List Fc} (hR : es ≠ [] → R = some ⟨b, o, none⟩) (h : FcRow w b o es) (hn : es.length ≤ 4096) :
    Calls Tryd.prog 53 #[.slice R es.length c, .func (.func 54) #[] #[]] w fun e w' => e = .returned (.bool (es.any fun x => !mayB x.s)) ∧ Below w.heap.size w w' := by
  have HC := Aside0.mk (fidx_c (c := c) hR h hn)
  clear hR h
  go_enter Tryd.func53, Tryd.ntmps53
  go_wp2_with (first | (go_at_call 73; refine HC.out.mono ?_; rintro e w2 ⟨z, rfl, hz, hb⟩; have HZ := Aside0.mk hz; clear hz) | fail)
  go_ret
  exact ⟨by rw [HZ.out]; rfl, hb⟩
/-- A record: its facts' row, its mark. -/
structure Rc where
  R : Option Addr
  b : Nat
  o : Nat
  c : Nat
  xs : List Fc
  m : Int
def Rc.v (r : Rc) : Value := .agg #[.slice r.R r.xs.length r.c, .int .i64 r.m]
structure Rc.rd (W : World) (r : Rc) : Prop where
  a : r.xs ≠ [] → r.R = some ⟨r.b, r.o, none⟩
  row : FcRow W r.b r.o r.xs
  c : r.xs.length ≤ r.c
  mx : (r.xs.length : Int) ≤ 9223372036854775807
theorem Rc.rd.below {W W1 : World} {r : Rc} (h : r.rd W) (hb : Below W.heap.size W W1) : r.rd W1 := ⟨h.a, h.row.below hb, h.c, h.mx⟩
/-- Is a record right? -/
def rightR (l : List Lib.S59) (m : Int) : Bool := if l.length = 0 then decide (0 ≤ m) && decide (m ≤ 1099511627776) else decide (m = -1) && (decide (l.length ≤ 16) && l.all mayB)
def Rc.fs (r : Rc) : List Lib.S59 := r.xs.map Fc.s
def Rc.ok (r : Rc) : Bool := rightR r.fs r.m
theorem fs_len (r : Rc) : r.fs.length = r.xs.length := by simp [Rc.fs]
set_option maxRecDepth 100000 in
set_option maxHeartbeats 4000000 in
theorem right_c {w : World} {r : Rc} (h : r.rd w) : Calls Tryd.prog 36 #[r.v] w fun e w' => e = .returned (.bool r.ok) ∧ Below w.heap.size w w' := by
  have HA : ∀ o, Below w.heap.size w (w.alloc o) := fun o => (Below.refl _ w).alloc (Nat.le_refl _) o
  have HC := Aside0.mk (fun (W : World) (hb : Below w.heap.size w W) (hl : r.xs.length ≤ 16) => fcont_c (c := r.c) h.a (h.row.below hb) (by omega))
  have hall : r.fs.all mayB = !(r.xs.any fun x => !mayB x.s) := by
    unfold Rc.fs
    rw [List.all_map, List.not_any_eq_all_not]
    congr 1
    funext x
    simp
  have hok : r.ok = if r.xs.length = 0 then decide (0 ≤ r.m) && decide (r.m ≤ 1099511627776) else decide (r.m = -1) && (decide (r.xs.length ≤ 16) && !(r.xs.any fun x => !mayB x.s)) := by
    unfold Rc.ok rightR
    rw [fs_len, hall]
  have hmx := h.mx
  rw [hok]
  unfold Rc.v
  generalize (r.xs.any fun x => !mayB x.s) = q at *
  generalize r.xs.length = n at *
  clear h hall hok
  by_cases h0 : n = 0
  · subst h0
    rw [if_pos rfl]
    by_cases h1 : 0 ≤ r.m
    · have t1 : decide (0 ≤ r.m) = true := decide_eq_true h1
      go_enter Tryd.func36, Tryd.ntmps36
      go_wp2_with fail
      go_ret
      exact ⟨by first | rfl | (rw [t1]; rfl), HA _⟩
    · have t1 : decide (0 ≤ r.m) = false := decide_eq_false h1
      go_enter Tryd.func36, Tryd.ntmps36
      go_wp2_with fail
      go_ret
      exact ⟨by first | rfl | (rw [t1]; rfl), HA _⟩
  · rw [if_neg h0]
    have t0 : decide (n = 0) = false := decide_eq_false h0
    have t0' : decide ((n : Int) = 0) = false := decide_eq_false (by omega)
    by_cases h1 : r.m = -1
    · have t1 : decide (r.m = -1) = true := decide_eq_true h1
      rw [h1]
      by_cases h2 : n ≤ 16
      · have t2 : decide (n ≤ 16) = true := decide_eq_true h2
        have t3 : decide ((n : Int) ≤ 16) = true := decide_eq_true (by omega)
        have HCC := Aside0.mk (fun (W : World) (hb : Below w.heap.size w W) => HC.out W hb h2)
        clear HC
        go_enter Tryd.func36, Tryd.ntmps36
        go_wp2_with (first | (go_at_call 53; refine (HCC.out _ (HA _)).mono ?_; rintro e w2 ⟨rfl, hb⟩) | fail)
        go_ret
        exact ⟨by first | rfl | (rw [t2]; rfl), (HA _).trans (hb.mono (HA _).size)⟩
      · have t2 : decide (n ≤ 16) = false := decide_eq_false h2
        have t3 : decide ((n : Int) ≤ 16) = false := decide_eq_false (by omega)
        go_enter Tryd.func36, Tryd.ntmps36
        go_wp2_with fail
        go_ret
        exact ⟨by first | rfl | (rw [t2]; rfl), HA _⟩
    · have t1 : decide (r.m = -1) = false := decide_eq_false h1
      go_enter Tryd.func36, Tryd.ntmps36
      go_wp2_with fail
      go_ret
      exact ⟨by first | rfl | (rw [t1]; rfl), HA _⟩
/-- A number's eight bytes. -/
def numB (v : Int) : List Int := numb (ordn v) 8
/-- A dimension's bytes. -/
def dimB (s : ByteArray) : List Int := txt (bs s)
/-- A fact's bytes. -/
def factB (s : Lib.S59) : List Int := sh s.f0.length ++ s.f0.flatMap dimB ++ numB s.f1 ++ numB s.f2
/-- A record's bytes. -/
def recB (l : List Lib.S59) (m : Int) : List Int := if l.length = 0 then 2 :: numB m else (1 :: sh l.length) ++ l.flatMap factB
theorem numB_len (v : Int) : (numB v).length = 8 := numb_length _ _
theorem numB_byt (v : Int) : Byt (numB v) := numb_byt _ _
theorem byt_flat {α : Type} {f : α → List Int} (h : ∀ x, Byt (f x)) (l : List α) : Byt (l.flatMap f) := fun x hx => by
  obtain ⟨y, _, hy⟩ := List.mem_flatMap.1 hx
  exact h y x hy
theorem dimB_byt (s : ByteArray) : Byt (dimB s) := txt_byt (bs_byt s)
theorem factB_byt (s : Lib.S59) : Byt (factB s) := byt_app (byt_app (byt_app (sh_byt _) (byt_flat dimB_byt _)) (numB_byt _)) (numB_byt _)
theorem recB_byt (l : List Lib.S59) (m : Int) : Byt (recB l m) := by
  unfold recB
  split
  · exact Byt.cons (by omega) (numB_byt _)
  · exact byt_app (Byt.cons (by omega) (sh_byt _)) (byt_flat factB_byt _)
theorem flat_le {α : Type} {f : α → List Int} {n : Nat} : ∀ (l : List α), (∀ x ∈ l, (f x).length ≤ n) → (l.flatMap f).length ≤ l.length * n
  | [], _ => by simp
  | x :: l, h => by
    rw [List.flatMap_cons, List.length_append, List.length_cons, Nat.add_mul, Nat.one_mul]
    have h1 := h x (by simp)
    have h2 := flat_le l (fun y hy => h y (by simp [hy]))
    omega
theorem may_dims {s : Lib.S59} (h : mayB s = true) : s.f0.length ≤ 4 ∧ (∀ d ∈ s.f0, d.size ≤ 16) ∧ 0 ≤ s.f1 ∧ s.f1 ≤ 1099511627776 := by
  unfold mayB Lib.fitsB at h
  simp only [Bool.and_eq_true, decide_eq_true_eq, List.all_eq_true] at h
  exact ⟨h.1.1, h.1.2, h.2.1, h.2.2⟩
theorem dimB_len {d : ByteArray} (h : d.size ≤ 16) : (dimB d).length ≤ 34 := by
  have := txt_length_le (bs d)
  rw [bs_length] at this
  unfold dimB
  omega
theorem factB_len {s : Lib.S59} (h : mayB s = true) : (factB s).length ≤ 200 := by
  obtain ⟨h1, h2, _⟩ := may_dims h
  have h3 := flat_le (f := dimB) (n := 34) s.f0 (fun d hd => dimB_len (h2 d hd))
  have h4 := sh_length_le 2 s.f0.length (by omega)
  unfold factB
  rw [List.length_append, List.length_append, List.length_append, numB_len, numB_len]
  omega
theorem right_facts {l : List Lib.S59} {m : Int} (h : rightR l m = true) (h0 : l.length ≠ 0) : m = -1 ∧ l.length ≤ 16 ∧ ∀ s ∈ l, mayB s = true := by
  unfold rightR at h
  rw [if_neg h0] at h
  simp only [Bool.and_eq_true, decide_eq_true_eq, List.all_eq_true] at h
  exact ⟨h.1, h.2.1, h.2.2⟩
theorem right_mark {l : List Lib.S59} {m : Int} (h : rightR l m = true) (h0 : l.length = 0) : 0 ≤ m ∧ m ≤ 1099511627776 := by
  unfold rightR at h
  rw [if_pos h0] at h
  simp only [Bool.and_eq_true, decide_eq_true_eq] at h
  exact h
theorem recB_len {l : List Lib.S59} {m : Int} (h : rightR l m = true) : (recB l m).length ≤ 4000 := by
  unfold recB
  by_cases h0 : l.length = 0
  · rw [if_pos h0, List.length_cons, numB_len]
    omega
  · rw [if_neg h0]
    obtain ⟨_, h2, h3⟩ := right_facts h h0
    have h4 := flat_le (f := factB) (n := 200) l (fun s hs => factB_len (h3 s hs))
    have h5 := sh_length_le 2 l.length (by omega)
    rw [List.length_append, List.length_cons]
    omega
theorem cnumber_c {w : World} {v : Int} (h : -9223372036854775808 ≤ v ∧ v < 9223372036854775808) : Calls Tryd.prog 37 #[.int .i64 v] w fun e w' => ∃ u, e = .returned u ∧ w'.ownsRow w.heap.size 5 1 u (numB v).length (nums .u8 (numB v)) ∧ Below w.heap.size w w' := by
  obtain ⟨k, hk⟩ := ev_number h
  exact (Lib.code_Number.calls k v (numB v) w (hk k (Nat.le_refl _))).mono fun e w' ⟨v, he, hR, hb⟩ => ⟨v, he, Kd.own_of_R hR, hb⟩
theorem text_c {w : World} {s : ByteArray} (h : s.size ≤ 100000) : Calls Tryd.prog 39 #[.string s] w fun e w' => ∃ u, e = .returned u ∧ w'.ownsRow w.heap.size 5 1 u (dimB s).length (nums .u8 (dimB s)) ∧ Below w.heap.size w w' := by
  obtain ⟨k, hk⟩ := ev_text (s := s) (by omega)
  exact (Lib.code_Text.calls k s (dimB s) w (hk k (Nat.le_refl _))).mono fun e w' ⟨v, he, hR, hb⟩ => ⟨v, he, Kd.own_of_R hR, hb⟩
theorem readNumber_c {w : World} {A : Option Addr} {c n : Nat} {v : Int} {b more : List Int} (h : -9223372036854775808 ≤ v ∧ v < 9223372036854775808) (he : b = numB v ++ more) (hn : n = b.length) (hr : RdB w A b) (hm : Byt more) (hc : b.length ≤ c) :
    Calls Tryd.prog 46 #[.slice A n c] w fun e w' => e = .returned (.tuple #[.int .i64 v, .int .i64 8, .int .i64 0]) ∧ Drawn0 w w' := by
  subst hn
  have hb : Byt b := by rw [he]; exact byt_app (numB_byt v) hm
  obtain ⟨k, hk⟩ := ev_readNumber hb
  have hk' := hk k (Nat.le_refl _)
  rw [he] at hk'
  unfold numB at hk'
  rw [rnum_numb h] at hk'
  have h9 : numb (ordn v) 8 ++ more = b := by rw [he]; rfl
  rw [h9] at hk'
  exact Lib.code_ReadNumber.calls k A c b _ _ _ w hr hc hk'
theorem readText_c {w : World} {A : Option Addr} {c n : Nat} {s : ByteArray} {b more : List Int} (he : b = dimB s ++ more) (hn : n = b.length) (hr : RdB w A b) (hl : b.length ≤ 1000000) (hc : b.length ≤ c) :
    Calls Tryd.prog 76 #[.slice A n c] w fun e w' => e = .returned (.tuple #[.string s, .int .i64 (dimB s).length, .int .i64 0]) ∧ Below w.heap.size w w' := by
  subst hn
  obtain ⟨k, hk⟩ := ev_readText (b := b) (by omega)
  have hk' := hk k (Nat.le_refl _)
  rw [he] at hk'
  unfold dimB at hk'
  rw [rtx_txt, List.nil_append, strOfNums_bs, Int.zero_add] at hk'
  have h9 : txt (bs s) ++ more = b := by rw [he]; rfl
  rw [h9] at hk'
  exact (Lib.code_ReadText.calls k A c b _ _ _ w hr hc hk').mono fun e w' h => h
end Go.Proofs.YtnmiipcoojijiaaDoor.Top
