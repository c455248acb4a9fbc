/-
  fold.Fold: what its loop holds; conditions: those that each theorem states.
-/
import Derived.Test.YtoikaegohkolkaaGJ
namespace Go.Proofs.Ytoikaegohkolkaa.Top
set_option linter.unusedSimpArgs false
set_option linter.unusedVariables false
open Go.RowKit Go.Proofs.YtoikaegohkolkaaW.PrintWords Go.Proofs.YtoikaegohkolkaaW.PrintLast Go.Proofs.YtoikaegohkolkaaW.PrintMore Go.Proofs.Ytoikaegohkolkaa.Plain Go.Proofs.Ytoikaegohkolkaa.KFns Go.Proofs.Ytoikaegohkolkaa.Fns
theorem insK_found {P S : Kv} {x : List Int × Ag} {k : List Int} {a : Ag} (hP : ∀ y ∈ P, lts y.1 k = true) (hS : ∀ y ∈ x :: S, lts y.1 k = false) (he : x.1 = k) : insK (P ++ x :: S) k a = P ++ (k, mergeF x.2 a) :: S := by
  rw [insK_part P (x :: S) k a hP hS]
  show P ++ (if lts x.1 k = true then _ else if x.1 = k then _ else _) = _
  rw [hS x (by simp), if_neg (by simp), if_pos he, he]
theorem insK_new {P S : Kv} {k : List Int} {a : Ag} (hP : ∀ y ∈ P, lts y.1 k = true) (hS : ∀ y ∈ S, lts y.1 k = false) (he : ∀ y, S.head? = some y → y.1 ≠ k) : insK (P ++ S) k a = P ++ (k, a) :: S := by
  rw [insK_part P S k a hP hS]
  cases S with
  | nil => rfl
  | cons y r =>
    show P ++ (if lts y.1 k = true then _ else if y.1 = k then _ else _) = _
    rw [hS y (by simp), if_neg (by simp), if_neg (he y rfl)]
/-- All blocks but rows of entries lie as they lay. -/
def Ke (A B : World) : Prop := A.heap.size ≤ B.heap.size ∧ ∀ (k : Nat) (cs : Array Value) (e : TypeId), A.heap[k]? = some (.cells cs e (0, 0)) → e ≠ 56 → B.heap[k]? = A.heap[k]?
theorem Ke.trans {A B C : World} (h : Ke A B) (k : Ke B C) : Ke A C := ⟨Nat.le_trans h.1 k.1, fun b cs e hb he => (k.2 b cs e ((h.2 b cs e hb he).trans hb) he).trans (h.2 b cs e hb he)⟩
theorem Ke.of_below {A B : World} (h : Below A.heap.size A B) : Ke A B := ⟨h.size, fun b cs e hb _ => h.block b (blk_lt hb)⟩
theorem Ke.grown {W W3 : World} {base n sz : Nat} {v : Value} {xs : List Value} (hown : W.ownsRow base 56 sz v n xs) (hg : W.grownBy W3 v.ownBlock) : Ke W W3 :=
  ⟨hg.size, fun b cs e hb he => hg.block b (blk_lt hb) (fun h => by
    obtain ⟨cs', hc⟩ := own_typed hown b h.symm
    rw [hb] at hc
    cases hc
    exact he rfl)⟩
theorem Ke.own {A B : World} {base n sz : Nat} {e : TypeId} {v : Value} {xs : List Value} (h : Ke A B) (he : e ≠ 56) (ho : A.ownsRow base e sz v n xs) : B.ownsRow base e sz v n xs := own_move ho fun k hk => by
  obtain ⟨cs, hc⟩ := own_typed ho k hk
  exact h.2 k cs e hc he
/-- What the loop holds. -/
structure FoI (w : World) (gs : Gr) (R : Option Addr) (c : Nat) (keep : Int) (l : Kv) (outs : List Ent) (o : Value) (wr : World) : Prop where
  own : wr.ownsRow w.heap.size 56 7 o outs.length (outs.flatMap Ent.cells)
  kv : outs.map Ent.ka = l
  srt : Srt l
  rd : ∀ x ∈ outs, EntOk w.heap.size wr x
  ok : ∀ x ∈ outs, KOk gs x.k ∧ Gd x.a
  be : Below w.heap.size w wr
  bx : wr.heap[w.heap.size]? = some (.cells #[.slice R gs.length c, .int .i64 keep] 24 (0, 0))
theorem FoI.below {w : World} {gs : Gr} {R : Option Addr} {c : Nat} {keep : Int} {l : Kv} {outs : List Ent} {o : Value} {wr w' : World} (h : FoI w gs R c keep l outs o wr) (hb : Below wr.heap.size wr w') : FoI w gs R c keep l outs o w' :=
  ⟨own_below h.own hb, h.kv, h.srt, fun x hx => own_below (h.rd x hx) hb, h.ok, h.be.trans (hb.mono h.be.size), (hb.block _ (blk_lt h.bx)).trans h.bx⟩
theorem EntOk.rw {n : Nat} {W : World} {x : Ent} (h : EntOk n W x) : x.rw W := by
  obtain ⟨A, c, e, h1, h2⟩ := own_rdb h
  cases e
  exact ⟨h1, h2⟩
/-- The row as the search takes it. -/
theorem FoI.row {w : World} {gs : Gr} {R : Option Addr} {c : Nat} {keep : Int} {l : Kv} {outs : List Ent} {o : Value} {wr : World} (h : FoI w gs R c keep l outs o wr) : ∃ (A : Option Addr) (g cp : Nat), o = .slice A outs.length cp ∧ (outs ≠ [] → A = some ⟨g, 0, none⟩ ∧ w.heap.size ≤ g) ∧ EnRow wr g 0 outs := by
  have hrd : ∀ x ∈ outs, x.rw wr := fun x hx => (h.rd x hx).rw
  rcases h.own.2 with ⟨e, h0⟩ | ⟨g, cp, cur, e, hg, hb, h1, h2, h3, h4⟩
  · have : outs = [] := List.length_eq_zero_iff.1 h0
    subst this
    exact ⟨none, 0, 0, e, fun h => absurd rfl h, ⟨fun j hj => by simp at hj, hrd⟩⟩
  · refine ⟨some ⟨g, 0, none⟩, g, cp, e, fun _ => ⟨rfl, hg⟩, ⟨fun j hj m u hu => ?_, hrd⟩⟩
    have hm : m < 7 := by have := (List.getElem?_eq_some_iff.1 hu).1; simpa [Ent.cells] using this
    have := (e ▸ h.own).cellAt (j * 7 + m) (by omega)
    rw [show 0 + j * 7 + m = j * 7 + m by omega, this, flat_get outs j m hj hm]
    exact hu
/-- The six cells of what is known are written. -/
def setAg (w : World) (g o : Nat) (a : Ag) : World := ((((((w.setCell ⟨g, o, none⟩ (.int .u64 a.c)).setCell ⟨g, o + 1, none⟩ (.bool a.o)).setCell ⟨g, o + 2, none⟩ (.int .i64 a.hi)).setCell ⟨g, o + 3, none⟩ (.int .u64 a.lo)).setCell ⟨g, o + 4, none⟩ (.int .i64 a.mn)).setCell ⟨g, o + 5, none⟩ (.int .i64 a.mx))
theorem set_mid (P S : List Value) (x0 x1 x2 x3 x4 x5 x6 c1 c2 c3 c4 c5 c6 : Value) : ((((((P ++ ([x0, x1, x2, x3, x4, x5, x6] ++ S)).set (P.length + 1) c1).set (P.length + 1 + 1) c2).set (P.length + 1 + 2) c3).set (P.length + 1 + 3) c4).set (P.length + 1 + 4) c5).set (P.length + 1 + 5) c6 = P ++ ([x0, c1, c2, c3, c4, c5, c6] ++ S) := by
  have h : ∀ (L : List Value) (j : Nat) (v : Value), (P ++ L).set (P.length + j) v = P ++ L.set j v := fun L j v => by
    rw [List.set_append_right _ _ (by omega), Nat.add_sub_cancel_left]
  rw [h _ 1, Nat.add_assoc, h _ 2, Nat.add_assoc, h _ 3, Nat.add_assoc, h _ 4, Nat.add_assoc, h _ 5, Nat.add_assoc, h _ 6]
  rfl
theorem setAg_own {w : World} {B g cp : Nat} {P S : List Ent} {x : Ent} {a : Ag} (h : w.ownsRow B 56 7 (.slice (some ⟨g, 0, none⟩) (P ++ x :: S).length cp) (P ++ x :: S).length ((P ++ x :: S).flatMap Ent.cells)) :
    (setAg w g (P.length * 7 + 1) a).ownsRow B 56 7 (.slice (some ⟨g, 0, none⟩) (P ++ x :: S).length cp) (P ++ x :: S).length ((P ++ ⟨x.A, x.c, x.k, a⟩ :: S).flatMap Ent.cells) ∧ w.grownBy (setAg w g (P.length * 7 + 1) a) (some g) := by
  generalize hn : (P ++ x :: S).length = n at *
  have h1 := h.stored (P.length * 7 + 1) (.int .u64 a.c)
  have h2 := h1.1.stored (P.length * 7 + 1 + 1) (.bool a.o)
  have h3 := h2.1.stored (P.length * 7 + 1 + 2) (.int .i64 a.hi)
  have h4 := h3.1.stored (P.length * 7 + 1 + 3) (.int .u64 a.lo)
  have h5 := h4.1.stored (P.length * 7 + 1 + 4) (.int .i64 a.mn)
  have h6 := h5.1.stored (P.length * 7 + 1 + 5) (.int .i64 a.mx)
  refine ⟨?_, ((((h1.2.trans h2.2).trans h3.2).trans h4.2).trans h5.2).trans h6.2⟩
  have e1 : (P ++ x :: S).flatMap Ent.cells = P.flatMap Ent.cells ++ ([.slice x.A x.k.length x.c, .int .u64 x.a.c, .bool x.a.o, .int .i64 x.a.hi, .int .u64 x.a.lo, .int .i64 x.a.mn, .int .i64 x.a.mx] ++ S.flatMap Ent.cells) := by simp [Ent.cells]
  have e2 : (P ++ ⟨x.A, x.c, x.k, a⟩ :: S).flatMap Ent.cells = P.flatMap Ent.cells ++ ([.slice x.A x.k.length x.c, .int .u64 a.c, .bool a.o, .int .i64 a.hi, .int .u64 a.lo, .int .i64 a.mn, .int .i64 a.mx] ++ S.flatMap Ent.cells) := by simp [Ent.cells]
  rw [e2, ← set_mid, eflat_len, ← e1]
  exact h6.1
theorem FoI.found {w : World} {gs : Gr} {R : Option Addr} {c cp g : Nat} {keep : Int} {l : Kv} {P S : List Ent} {x : Ent} {wr : World} {k : List Int} {a : Ag} (h : FoI w gs R c keep l (P ++ x :: S) (.slice (some ⟨g, 0, none⟩) (P ++ x :: S).length cp) wr) (hP : ∀ y ∈ P, lts y.k k = true) (hS : ∀ y ∈ x :: S, lts y.k k = false) (he : x.k = k) (ha : Gd a) (hg : w.heap.size ≤ g) :
    FoI w gs R c keep (insK l k a) (P ++ ⟨x.A, x.c, x.k, mergeF x.a a⟩ :: S) (.slice (some ⟨g, 0, none⟩) (P ++ x :: S).length cp) (setAg wr g (P.length * 7 + 1) (mergeF x.a a)) := by
  obtain ⟨h1, h2⟩ := setAg_own (a := mergeF x.a a) h.own
  have hk : Ke wr (setAg wr g (P.length * 7 + 1) (mergeF x.a a)) := Ke.grown h.own h2
  refine ⟨by simpa using h1, ?_, insK_srt _ _ _ h.srt, fun y hy => ?_, fun y hy => ?_, ?_, ?_⟩
  · rw [← h.kv, List.map_append, List.map_cons, List.map_append, List.map_cons]
    have e := insK_found (P := P.map Ent.ka) (S := S.map Ent.ka) (x := x.ka) (k := k) (a := a) (fun y hy => by
      obtain ⟨z, hz, rfl⟩ := List.mem_map.1 hy
      exact hP z hz) (fun y hy => by
      rw [← List.map_cons] at hy
      obtain ⟨z, hz, rfl⟩ := List.mem_map.1 hy
      exact hS z hz) he
    rw [e]
    subst he
    rfl
  · rcases List.mem_append.1 hy with hy | hy
    · exact hk.own (by decide) (h.rd y (by simp [hy]))
    · rcases List.mem_cons.1 hy with rfl | hy
      · exact hk.own (by decide) (h.rd x (by simp))
      · exact hk.own (by decide) (h.rd y (by simp [hy]))
  · rcases List.mem_append.1 hy with hy | hy
    · exact h.ok y (by simp [hy])
    · rcases List.mem_cons.1 hy with rfl | hy
      · exact ⟨(h.ok x (by simp)).1, (h.ok x (by simp)).2.merge ha⟩
      · exact h.ok y (by simp [hy])
  · exact h.be.trans ⟨h2.os, h2.tape, h2.output, h2.size, fun k hk => h2.block k (Nat.lt_of_lt_of_le hk h.be.size) (by simp; omega)⟩
  · exact (hk.2 _ _ _ h.bx (by decide)).trans h.bx
theorem FoI.put {w : World} {gs : Gr} {R : Option Addr} {c : Nat} {keep : Int} {l : Kv} {P S : List Ent} {x : Ent} {o o' : Value} {wr W wr' : World} {k : List Int} {a : Ag} (h : FoI w gs R c keep l (P ++ S) o wr) (hW : Below wr.heap.size wr W) (hx : EntOk w.heap.size W ⟨x.A, x.c, k, a⟩) (hP : ∀ y ∈ P, lts y.k k = true) (hS : ∀ y ∈ S, lts y.k k = false) (he : ∀ y, S.head? = some y → y.k ≠ k) (ha : Gd a) (hk : KOk gs k)
    (hown : wr'.ownsRow w.heap.size 56 7 o' ((P ++ S).length + 1) ((P ++ ⟨x.A, x.c, k, a⟩ :: S).flatMap Ent.cells)) (hg : W.grownBy wr' o.ownBlock) :
    FoI w gs R c keep (insK l k a) (P ++ ⟨x.A, x.c, k, a⟩ :: S) o' wr' := by
  have hI := h.below hW
  have hke : Ke W wr' := Ke.grown hI.own hg
  refine ⟨by simpa [Nat.add_assoc] using hown, ?_, insK_srt _ _ _ h.srt, fun y hy => ?_, fun y hy => ?_, ?_, ?_⟩
  · rw [← h.kv, List.map_append, List.map_cons, List.map_append]
    refine (insK_new (P := P.map Ent.ka) (S := S.map Ent.ka) (k := k) (a := a) (fun y hy => ?_) (fun y hy => ?_) (fun y hy => ?_)).symm
    · obtain ⟨z, hz, rfl⟩ := List.mem_map.1 hy
      exact hP z hz
    · obtain ⟨z, hz, rfl⟩ := List.mem_map.1 hy
      exact hS z hz
    · rw [List.head?_map] at hy
      obtain ⟨z, hz, rfl⟩ := Option.map_eq_some_iff.1 hy
      exact he z hz
  · rcases List.mem_append.1 hy with hy | hy
    · exact hke.own (by decide) (hI.rd y (by simp [hy]))
    · rcases List.mem_cons.1 hy with rfl | hy
      · exact hke.own (by decide) hx
      · exact hke.own (by decide) (hI.rd y (by simp [hy]))
  · rcases List.mem_append.1 hy with hy | hy
    · exact h.ok y (by simp [hy])
    · rcases List.mem_cons.1 hy with rfl | hy
      · exact ⟨hk, ha⟩
      · exact h.ok y (by simp [hy])
  · refine hI.be.trans ⟨hg.os, hg.tape, hg.output, hg.size, fun k hk => hg.block k (Nat.lt_of_lt_of_le hk hI.be.size) (fun e => ?_)⟩
    have := (hI.own.lt k e.symm).1
    omega
  · exact (hke.2 _ _ _ hI.bx (by decide)).trans hI.bx
/-- What is known, as the cells hold it. -/
def AgR (a : Ag) : Prop := a.ok ∧ (-9223372036854775808 ≤ a.mn ∧ a.mn < 9223372036854775808) ∧ (-9223372036854775808 ≤ a.mx ∧ a.mx < 9223372036854775808)
/-- What fold.Fold gives where nothing is wrong. -/
structure Folded (n : Nat) (gs : Gr) (keep m : Int) (es outs : List Ent) (v : Value) (W : World) : Prop where
  own : W.ownsRow n 56 7 v outs.length (outs.flatMap Ent.cells)
  kv : outs.map Ent.ka = foldK (atF gs keep m) (es.map Ent.ka)
  rd : ∀ x ∈ outs, EntOk n W x
  ok : ∀ x ∈ outs, KOk gs x.k ∧ Gd x.a
set_option maxRecDepth 100000 in
set_option maxHeartbeats 8000000 in
theorem ffold_c {w : World} {R R2 : Option Addr} {b o c b2 o2 c2 : Nat} {gs : Gr} {keep m : Int} {es : List Ent} (hR : gs ≠ [] → R = some ⟨b, o, none⟩) (h : GRow w b o gs) (hl : (gs.length : Int) ≤ 9223372036854775807) (hR2 : es ≠ [] → R2 = some ⟨b2, o2, none⟩) (he : EnRow w b2 o2 es) (hn : es.length ≤ 4096) (hok : EnOk es) (hag : ∀ x ∈ es, AgR x.a) :
    Calls Try.prog 12 #[rulV R gs.length c keep, .int .i64 m, .slice R2 es.length c2] w fun e w' => ∃ v outs, e = .returned (.tuple #[v, .int .i64 (chk gs keep m es)]) ∧ Below w.heap.size w w' ∧ (chk gs keep m es ≠ 0 → v = .slice none 0 0) ∧ (chk gs keep m es = 0 → Folded w.heap.size gs keep m es outs v w') := by
  have hI : RuI w R b o c gs keep (w.alloc (.cells #[.slice R gs.length c, .int .i64 keep] 24)) := ⟨(Below.refl _ w).alloc (Nat.le_refl _) _, al_new rfl, h.below ((Below.refl _ w).alloc (Nat.le_refl _) _)⟩
  obtain ⟨k0, k1⟩ := hI.c
  have HCK := Aside0.mk (check_c (c := c) (c2 := c2) (keep := keep) (m := m) hR hI.row hl hR2 (he.below hI.be) hn hok)
  have HI := Aside0.mk hI
  have HH := Aside0.mk (And.intro hR (And.intro hR2 (And.intro he (And.intro hok (And.intro hag h)))))
  have HZ := Aside0.mk (chk_zero (gs := gs) (keep := keep) (m := m) (es := es))
  unfold rulV at HCK ⊢
  clear hI hR h hR2 he hok hl hag
  by_cases hz : chk gs keep m es = 0
  · have HZ2 := Aside0.mk (HZ.out hz)
    rw [hz] at HCK ⊢
    clear hz HZ
    go_enter Try.func12, Try.ntmps12
    go_wp2_with (first
      | (go_at_call 19
         refine HCK.out.mono ?_
         rintro e w2 ⟨rfl, hb2⟩
         have HI2 := Aside0.mk (HI.out.below hb2)
         clear hb2 HI HCK k0 k1)
      | go_step3 | fail)
    go_loopw [9, 25] (fun o i wr => ∃ (j : Nat) (outs : List Ent), j ≤ es.length ∧ i = .int .i64 j ∧ outs.length ≤ j ∧ Aside0 (FoI w gs R c keep ((es.take j).map Ent.ka |>.foldl (stepK (atF gs keep m)) []) outs o wr)) (fun _ i _ => es.length - (intOf i).toNat)
    case atStart => exact ⟨0, [], by omega, rfl, by simp, ⟨⟨World.ownsRow_nil _ _ _ _, rfl, List.Pairwise.nil, fun x hx => by simp at hx, fun x hx => by simp at hx, HI2.out.be, HI2.out.bx⟩⟩⟩
    case round =>
      obtain ⟨j, outs, hj, rfl, hol, HFI⟩ := hrel
      by_cases hlt : j < es.length
      · have t1 : decide (j < es.length) = true := decide_eq_true hlt
        obtain rfl := HH.out.2.1 (by intro e; rw [e] at hlt; simp at hlt)
        have hE := HH.out.2.2.1.below HFI.out.be
        have hxr := hE.rd _ (List.getElem_mem hlt)
        have hxe := HH.out.2.2.2.1 _ (List.getElem_mem hlt)
        have hxf := fitsE_kok hxe.1 hxe.2 (HZ2.out.2.2.2 _ (List.getElem_mem hlt))
        have hxg : Gd es[j].a := ⟨hxf.2.1, hxf.2.2, (HH.out.2.2.2.2.1 _ (List.getElem_mem hlt)).1, (HH.out.2.2.2.2.1 _ (List.getElem_mem hlt)).2.1, (HH.out.2.2.2.2.1 _ (List.getElem_mem hlt)).2.2⟩
        obtain ⟨x0, x1, x2, x3, x4, x5, x6⟩ := hE.cells hlt
        have htk : es.take (j + 1) = es.take j ++ [es[j]] := by rw [List.take_add_one, List.getElem?_eq_getElem hlt]; rfl
        have HTK := Aside0.mk htk
        have HX := Aside0.mk (And.intro hxf.1 hxg)
        have HXR := Aside0.mk hxr
        clear hxf hxg htk hE hxe hxr
        generalize es[j] = x at *
        obtain ⟨xA, xc, xk, xa⟩ := x
        obtain ⟨ac, ao, ah, al, an, ax⟩ := xa
        simp only at x0 x1 x2 x3 x4 x5 x6
        have hB3 := (Below.refl wr.heap.size wr).alloc (Nat.le_refl _) (.cells #[.slice xA xk.length xc, .int .u64 ac, .bool ao, .int .i64 ah, .int .u64 al, .int .i64 an, .int .i64 ax] 56)
        have hN3 := al_new (W := wr) (o := (.cells #[.slice xA xk.length xc, .int .u64 ac, .bool ao, .int .i64 ah, .int .u64 al, .int .i64 an, .int .i64 ax] 56)) (k := wr.heap.size) rfl
        have hF3 := HFI.out.below hB3
        have k0 : (wr.alloc (.cells #[.slice xA xk.length xc, .int .u64 ac, .bool ao, .int .i64 ah, .int .u64 al, .int .i64 an, .int .i64 ax] 56)).cell? ⟨w.heap.size, 0, none⟩ = some (.slice R gs.length c) := (blk_cell hF3.bx 0).trans rfl
        have k1 : (wr.alloc (.cells #[.slice xA xk.length xc, .int .u64 ac, .bool ao, .int .i64 ah, .int .u64 al, .int .i64 an, .int .i64 ax] 56)).cell? ⟨w.heap.size, 1, none⟩ = some (.int .i64 keep) := (blk_cell hF3.bx 1).trans rfl
        have HAT := Aside0.mk (at_c (c := c) (ck := xc) HH.out.1 (HH.out.2.2.2.2.2.below hF3.be) HZ2.out.1 HZ2.out.2.1 (HXR.out.below hB3).k HXR.out.kc HX.out.1)
        have HF3 := Aside0.mk hF3
        have HN3 := Aside0.mk hN3
        have HB3 := Aside0.mk hB3
        unfold rulV at HAT
        simp only at HAT
        clear hF3 hN3 hB3
        cases hgone : goneG gs keep m (rdK xk).2.1 with
        | true =>
          rw [hgone] at HAT
          have HG := Aside0.mk hgone
          clear hgone
          go_wp2_with (first
            | (go_at_call 22
               refine HAT.out.mono ?_
               rintro e w4 ⟨v, rfl, hown, hb4⟩
               have HF4 := Aside0.mk (HF3.out.below hb4)
               clear hown hb4)
            | fail)
          go_roundw
          case rel =>
            refine ⟨j + 1, outs, by omega, by go_num, by omega, ⟨?_⟩⟩
            have e1 : stepK (atF gs keep m) (((es.take j).map Ent.ka).foldl (stepK (atF gs keep m)) []) (xk, (⟨ac, ao, ah, al, an, ax⟩ : Ag)) = ((es.take j).map Ent.ka).foldl (stepK (atF gs keep m)) [] := by
              unfold stepK atF
              simp only [HG.out, if_true]
            rw [HTK.out, List.map_append, List.foldl_append]
            simp only [List.map_cons, List.map_nil, List.foldl_cons, List.foldl_nil, Ent.ka]
            rw [e1]
            exact HF4.out
          case measure => simp [intOf]; omega
        | false =>
          rw [hgone] at HAT
          have HG := Aside0.mk (show stepK (atF gs keep m) (((es.take j).map Ent.ka).foldl (stepK (atF gs keep m)) []) (xk, (⟨ac, ao, ah, al, an, ax⟩ : Ag)) = insK (((es.take j).map Ent.ka).foldl (stepK (atF gs keep m)) []) (atB gs m xk) ⟨ac, ao, ah, al, an, ax⟩ by
            unfold stepK atF
            rw [hgone]
            rfl)
          have HKO := Aside0.mk (HX.out.1.at_ok (m := m) (rightR_iff HZ2.out.1))
          clear hgone
          generalize hL : ((es.take j).map Ent.ka).foldl (stepK (atF gs keep m)) [] = L at *
          have HL := Aside0.mk hL
          clear hL
          generalize atB gs m xk = k at *
          go_upto_region 10 with (first
            | (go_at_call 22
               refine HAT.out.mono ?_
               rintro e w4 ⟨v, rfl, hown, hb4⟩
               obtain ⟨Ak, ck, rfl, hkr, hkc⟩ := own_rdb hown
               have hF4 := HF3.out.below hb4
               have hN4 := (hb4.block _ (blk_lt HN3.out)).trans HN3.out
               have hk4 := own_down hown (by have := HFI.out.be.size; rw [World.size_alloc]; omega : w.heap.size ≤ _))
            | fail)
          obtain ⟨A, g, cp, rfl, hAn, hrow⟩ := hF4.row
          have HSE := Aside0.mk (esearch_c (c := cp) (lc := ck) (fun h => (hAn h).1) hrow (by rw [hF4.kv]; exact hF4.srt) (fun x hx => (hF4.ok x hx).1.byt) (by omega) hkr HKO.out.byt)
          have HAN := Aside0.mk hAn
          have HF4 := Aside0.mk hF4
          have HN4 := Aside0.mk hN4
          have HK4 := Aside0.mk hk4
          have hws : wr.heap.size < w4.heap.size := blk_lt hN4
          clear hAn hrow hkr hkc hown hk4 hF4 hN4 HAT HXR HF3 HN3 HB3 k0 k1 x0 x1 x2 x3 x4 x5 x6 hb4
          go_upto_region 11 with (first
            | (go_at_call 24
               refine HSE.out.mono ?_
               rintro e w5 ⟨i, q, rfl, hi, hlo, hhi, hq, hb5⟩
               have hF5 := HF4.out.below hb5
               have hN5 := (hb5.block _ (blk_lt HN4.out)).trans HN4.out
               have hK5 := own_below HK4.out hb5)
            | fail)
          have hws5 : wr.heap.size < w5.heap.size := blk_lt hN5
          clear HSE HF4 HN4 HK4 hb5 hws
          have hlo' : ∀ y ∈ outs.take i, lts y.k k = true := fun y hy => by
            obtain ⟨n, hn, rfl⟩ := List.mem_iff_getElem.1 hy
            rw [List.length_take] at hn
            rw [List.getElem_take]
            exact hlo n (by omega) (by omega)
          have hhi' : ∀ y ∈ outs.drop i, lts y.k k = false := fun y hy => by
            obtain ⟨n, hn, rfl⟩ := List.mem_iff_getElem.1 hy
            rw [List.length_drop] at hn
            rw [List.getElem_drop]
            exact hhi (i + n) (by omega) (by omega)
          have y1 : w5.cell? ⟨wr.heap.size, 1, none⟩ = some (.int .u64 ac) := (blk_cell hN5 1).trans rfl
          have y2 : w5.cell? ⟨wr.heap.size, 2, none⟩ = some (.bool ao) := (blk_cell hN5 2).trans rfl
          have y3 : w5.cell? ⟨wr.heap.size, 3, none⟩ = some (.int .i64 ah) := (blk_cell hN5 3).trans rfl
          have y4 : w5.cell? ⟨wr.heap.size, 4, none⟩ = some (.int .u64 al) := (blk_cell hN5 4).trans rfl
          have y5 : w5.cell? ⟨wr.heap.size, 5, none⟩ = some (.int .i64 an) := (blk_cell hN5 5).trans rfl
          have y6 : w5.cell? ⟨wr.heap.size, 6, none⟩ = some (.int .i64 ax) := (blk_cell hN5 6).trans rfl
          have HF5 := Aside0.mk hF5
          have HN5 := Aside0.mk hN5
          have HK5 := Aside0.mk hK5
          have HLH := Aside0.mk (And.intro hlo' hhi')
          clear hF5 hN5 hK5 hlo hhi hlo' hhi'
          cases q with
          | true =>
            obtain ⟨hil, hik⟩ := hq.1 rfl
            clear hq
            obtain ⟨rfl, hgb⟩ := HAN.out (by intro e; rw [e] at hil; simp at hil)
            have hdr : outs.drop i = outs[i] :: outs.drop (i + 1) := List.drop_eq_getElem_cons hil
            have hF : FoI w gs R c keep L (outs.take i ++ outs[i] :: outs.drop (i + 1)) (.slice (some ⟨g, 0, none⟩) outs.length cp) w5 := by rw [← hdr, List.take_append_drop]; exact HF5.out
            have hen : EnRow w5 g 0 outs := by
              obtain ⟨A', g', cp', e', h1, h2⟩ := HF5.out.row
              cases e'
              have := (h1 (by intro e; rw [e] at hil; simp at hil)).1
              cases this
              exact h2
            obtain ⟨z0, z1, z2, z3, z4, z5, z6⟩ := hen.cells hil
            have hgd := (HF5.out.ok _ (List.getElem_mem hil)).2
            have hS2 := HLH.out.2
            rw [hdr] at hS2
            have hgw := HF5.out.own.lt g rfl
            have hgne : g ≠ wr.heap.size := by
              intro e
              have := (HFI.out.own.lt g rfl).2
              omega
            have HS2 := Aside0.mk hS2
            have HF := Aside0.mk hF
            have HGD := Aside0.mk hgd
            have HIK := Aside0.mk hik
            obtain ⟨cur, hbl⟩ := own_typed HF5.out.own g rfl
            have HBL := Aside0.mk hbl
            have hpl : (outs.take i).length = i := by rw [List.length_take]; omega
            have HPL := Aside0.mk hpl
            clear hdr hF hen hgd hS2 hik hgw hpl hbl
            generalize outs[i] = y at *
            obtain ⟨yA, yc, yk, sc, so, shi, slo, smn, smx⟩ := y
            simp only [Nat.zero_add] at z0 z1 z2 z3 z4 z5 z6
            rcases hmf : mergeF ⟨sc, so, shi, slo, smn, smx⟩ ⟨ac, ao, ah, al, an, ax⟩ with ⟨dc, dd, dh, dl, dn, dx⟩
            have HMF := Aside0.mk hmf
            clear hmf
            have t3 : (i : Int) < (outs.length : Int) := by omega
            have t4 : (0 : Int) ≤ (i : Int) := by omega
            go_wp2_with fail
            go_region_with (first | (go_at_call 27; refine (merge_g (a := ⟨sc, so, shi, slo, smn, smx⟩) (b := ⟨ac, ao, ah, al, an, ax⟩) HGD.out.ok HX.out.2.ok).mono ?_; rintro e w6 ⟨rfl, hb6⟩; rw [HMF.out]; dsimp only [Ag.v]; have k6 := (hb6.block g (blk_lt HBL.out)).trans HBL.out; have r1 := cell_below hb6 z1; have q1 : w6.frozen? ⟨g, i * 7 + 1, none⟩ = false := blk_frozen k6 _; have r2 := cell_below hb6 z2; have q2 : w6.frozen? ⟨g, i * 7 + 2, none⟩ = false := blk_frozen k6 _; have r3 := cell_below hb6 z3; have q3 : w6.frozen? ⟨g, i * 7 + 3, none⟩ = false := blk_frozen k6 _; have r4 := cell_below hb6 z4; have q4 : w6.frozen? ⟨g, i * 7 + 4, none⟩ = false := blk_frozen k6 _; have r5 := cell_below hb6 z5; have q5 : w6.frozen? ⟨g, i * 7 + 5, none⟩ = false := blk_frozen k6 _; have r6 := cell_below hb6 z6; have q6 : w6.frozen? ⟨g, i * 7 + 6, none⟩ = false := blk_frozen k6 _))
            all_goals
              have hB6 : Below w5.heap.size w5 w6 := ⟨hb6.os, hb6.tape, hb6.output, hb6.size, hb6.block⟩
              have hF6 := HF.out.below hB6
              have hlen : outs.length = (outs.take i ++ ⟨yA, yc, yk, ⟨sc, so, shi, slo, smn, smx⟩⟩ :: outs.drop (i + 1)).length := by simp; omega
              have hfin := FoI.found (hlen ▸ hF6) HLH.out.1 HS2.out HIK.out HX.out.2 hgb
              rw [HPL.out, HMF.out] at hfin
              have HFI2 := Aside0.mk hfin
              clear hfin hF6
              go_wp2_with fail
              refine ⟨⟨j + 1, outs.take i ++ ⟨yA, yc, yk, ⟨dc, dd, dh, dl, dn, dx⟩⟩ :: outs.drop (i + 1), by omega, by go_num, by simp at hlen ⊢; omega, ⟨?_⟩⟩, by simp [intOf]; omega⟩
              rw [HTK.out, List.map_append, List.foldl_append, HL.out]
              simp only [List.map_cons, List.map_nil, List.foldl_cons, List.foldl_nil, Ent.ka]
              rw [HG.out]
              have h9 := HFI2.out
              rw [show (outs.take i ++ ⟨yA, yc, yk, ⟨sc, so, shi, slo, smn, smx⟩⟩ :: outs.drop (i + 1)).length = outs.length from hlen.symm] at h9
              exact h9
          | false =>
            have HQ := Aside0.mk (show ∀ y, (outs.drop i).head? = some y → y.k ≠ k from fun y hy he => by
              rw [List.head?_drop] at hy
              obtain ⟨h1, h2⟩ := List.getElem?_eq_some_iff.1 hy
              have := hq.2 ⟨h1, by rw [h2]; exact he⟩
              cases this)
            clear hq
            have hB6 := (Below.refl w5.heap.size w5).alloc (Nat.le_refl _) (.cells #[.slice Ak k.length ck, .int .u64 ac, .bool ao, .int .i64 ah, .int .u64 al, .int .i64 an, .int .i64 ax] 56)
            have hN6 := al_new (W := w5) (o := (.cells #[.slice Ak k.length ck, .int .u64 ac, .bool ao, .int .i64 ah, .int .u64 al, .int .i64 an, .int .i64 ax] 56)) (k := w5.heap.size) rfl
            have hF6 := HF5.out.below hB6
            have HIN := Aside0.mk (einsert_c (i := i) (vc := 1) (x := ⟨Ak, ck, k, ⟨ac, ao, ah, al, an, ax⟩⟩) hF6.own hi (by omega) (by have := HF5.out.be.size; rw [World.size_alloc]; omega) hN6 rfl (by
              intro e
              obtain ⟨h1, h2⟩ := HF5.out.own.lt _ e
              omega))
            have HF6 := Aside0.mk hF6
            have HB6 := Aside0.mk hB6
            clear hB6 hN6 hF6
            go_wp2_with (first
              | (go_at_call 28
                 refine HIN.out.mono ?_
                 rintro e w7 ⟨v7, rfl, hown7, hg7⟩
                 have HO7 := Aside0.mk (And.intro hown7 hg7)
                 clear hown7 hg7)
              | fail)
            go_roundw
            case rel =>
              have hF : FoI w gs R c keep L (outs.take i ++ outs.drop i) (.slice A outs.length cp) w5 := by rw [List.take_append_drop]; exact HF5.out
              refine ⟨j + 1, outs.take i ++ ⟨Ak, ck, k, ⟨ac, ao, ah, al, an, ax⟩⟩ :: outs.drop i, by omega, by go_num, by simp; omega, ⟨?_⟩⟩
              rw [HTK.out, List.map_append, List.foldl_append, HL.out]
              simp only [List.map_cons, List.map_nil, List.foldl_cons, List.foldl_nil, Ent.ka]
              rw [HG.out]
              exact hF.put (x := ⟨Ak, ck, k, ⟨ac, ao, ah, al, an, ax⟩⟩) HB6.out (own_below HK5.out HB6.out) HLH.out.1 HLH.out.2 HQ.out HX.out.2 HKO.out (by rw [List.take_append_drop]; exact HO7.out.1) HO7.out.2
            case measure => simp [intOf]; omega
      · obtain rfl : j = es.length := by omega
        have t1 : decide (es.length < es.length) = false := decide_eq_false hlt
        go_wp2_with (first | go_step3 | fail)
        rw [Exit.noGoto_ret]
        go_ret2
        have hF := HFI.out
        rw [List.take_length] at hF
        exact ⟨u9, outs, rfl, hF.be, fun h => absurd rfl h, fun _ => ⟨hF.own, hF.kv, hF.rd, hF.ok⟩⟩
  · have e0 : (chk gs keep m es != 0) = true := by simp [hz]
    have HNZ := Aside0.mk hz
    clear hz
    generalize chk gs keep m es = q at *
    go_enter Try.func12, Try.ntmps12
    go_wp2_with (first
      | (go_at_call 19
         refine HCK.out.mono ?_
         rintro e w2 ⟨rfl, hb2⟩)
      | go_step3 | fail)
    rw [Exit.noGoto_ret]
    go_ret2
    exact ⟨.slice none 0 0, [], rfl, HI.out.be.trans (hb2.mono HI.out.be.size), fun _ => rfl, fun h => absurd h HNZ.out⟩
end Go.Proofs.Ytoikaegohkolkaa.Top
