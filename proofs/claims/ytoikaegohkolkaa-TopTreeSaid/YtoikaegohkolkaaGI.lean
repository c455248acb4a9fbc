/-
  fold.Fits and fold.check; conditions: those that each theorem states.
-/
import Derived.Test.YtoikaegohkolkaaGH
namespace Go.Proofs.Ytoikaegohkolkaa.Top
set_option linter.unusedSimpArgs false
set_option linter.unusedVariables false
open Go.RowKit Go.Proofs.YtoikaegohkolkaaW.PrintWords Go.Proofs.YtoikaegohkolkaaW.PrintLast Go.Proofs.YtoikaegohkolkaaW.PrintMore Go.Proofs.Ytoikaegohkolkaa.Plain Go.Proofs.Ytoikaegohkolkaa.KFns Go.Proofs.Ytoikaegohkolkaa.Fns
/-- Entries that came in: keys of bytes, none too long. -/
def EnOk (es : List Ent) : Prop := ∀ x ∈ es, Byt x.k ∧ x.k.length ≤ 1000000
theorem fitsc_c {w : World} {R : Option Addr} {b o c rb : Nat} {gs : Gr} {keep : Int} {x : Ent} (hR : gs ≠ [] → R = some ⟨b, o, none⟩) (h : GRow w b o gs) (hg : rightR gs keep = true) (hx : x.rw w) (hb : Byt x.k) (hl : x.k.length ≤ 1000000) (hrb : w.heap[rb]? = some (.cells #[.slice R gs.length c, .int .i64 keep] 24 (0, 0))) :
    Calls Try.prog 68 #[x.v, .pointer (some ⟨rb, 0, none⟩)] w fun e w' => e = .returned (.bool (!fitsE gs x.k x.a)) ∧ Below w.heap.size w w' := by
  obtain ⟨A, ck, k, a⟩ := x
  have hB := (Below.refl _ w).alloc (Nat.le_refl _) (.cells #[.slice A k.length ck, .int .u64 a.c, .bool a.o, .int .i64 a.hi, .int .u64 a.lo, .int .i64 a.mn, .int .i64 a.mx] 56)
  have k0 := cell_below hB ((blk_cell hrb 0).trans rfl : w.cell? ⟨rb, 0, none⟩ = some (.slice R gs.length c))
  have k1 := cell_below hB ((blk_cell hrb 1).trans rfl : w.cell? ⟨rb, 1, none⟩ = some (.int .i64 keep))
  have HF := Aside0.mk (ffits_c (c := c) (a := a) hR (h.below hB) hg (hx.k.below hB) hx.kc hb hl)
  unfold Ent.v entV
  unfold rulV entV at HF
  simp only
  clear hR h hg hx hrb
  go_enter Try.func68, Try.ntmps68
  go_wp2_with (first | (go_at_call 69; refine HF.out.mono ?_; rintro e w2 ⟨rfl, hb2⟩) | fail)
  go_ret
  exact ⟨rfl, hB.trans (hb2.mono hB.size)⟩
noncomputable def fitsAll (gs : Gr) (keep : Int) (es : List Ent) : Bool := es.isEmpty || (rightR gs keep && !(es.any fun x => !fitsE gs x.k x.a))
theorem fitsall_c {w : World} {R R2 : Option Addr} {b o c b2 o2 c2 : Nat} {gs : Gr} {keep : Int} {es : List Ent} (hR : gs ≠ [] → R = some ⟨b, o, none⟩) (h : GRow w b o gs) (hl : (gs.length : Int) ≤ 9223372036854775807) (hR2 : es ≠ [] → R2 = some ⟨b2, o2, none⟩) (he : EnRow w b2 o2 es) (hn : es.length ≤ 4096) (hok : EnOk es) :
    Calls Try.prog 40 #[rulV R gs.length c keep, .slice R2 es.length c2] w fun e w' => e = .returned (.bool (fitsAll gs keep es)) ∧ Below w.heap.size w w' := by
  have hI : RuI w R b o c gs keep (w.alloc (.cells #[.slice R gs.length c, .int .i64 keep] 24)) := ⟨(Below.refl _ w).alloc (Nat.le_refl _) _, al_new rfl, h.below ((Below.refl _ w).alloc (Nat.le_refl _) _)⟩
  obtain ⟨k0, k1⟩ := hI.c
  have HGR := Aside0.mk (gright_c (c := c) (keep := keep) hR hI.row hl)
  unfold rulV at HGR ⊢
  by_cases h0 : es.length = 0
  · have e0 : ((es.length : Int) == 0) = true := by simp [h0]
    have e1 : es.isEmpty = true := by rw [List.length_eq_zero_iff.1 h0]; rfl
    have HI := Aside0.mk hI
    have E1 := Aside0.mk e1
    clear hI hR h hR2 he hok h0 e1
    go_enter Try.func40, Try.ntmps40
    go_wp2_with fail
    go_ret
    exact ⟨by unfold fitsAll; rw [E1.out]; rfl, HI.out.be⟩
  · have e0 : ((es.length : Int) == 0) = false := beq_eq_false_iff_ne.2 (by omega)
    have e1 : es.isEmpty = false := by cases es with | nil => simp at h0 | cons x r => rfl
    have HI := Aside0.mk hI
    have E1 := Aside0.mk e1
    have HH := Aside0.mk (And.intro hR (And.intro hR2 (And.intro he hok)))
    clear hI h0 e1 hR h hR2 he hok
    cases hg : rightR gs keep with
    | false =>
      rw [hg] at HGR
      have HG := Aside0.mk hg
      clear hg
      go_enter Try.func40, Try.ntmps40
      go_wp2_with (first | (go_at_call 39; refine HGR.out.mono ?_; rintro e w2 ⟨rfl, hb2⟩) | fail)
      go_ret
      exact ⟨by unfold fitsAll; rw [E1.out, HG.out]; rfl, HI.out.be.trans (hb2.mono HI.out.be.size)⟩
    | true =>
      rw [hg] at HGR
      have HG := Aside0.mk hg
      clear hg
      go_enter Try.func40, Try.ntmps40
      go_wp2_with (first
        | (go_at_call 39
           refine HGR.out.mono ?_
           rintro e w2 ⟨rfl, hb2⟩
           have hI2 := HI.out.below hb2
           have HCO := Aside0.mk (econtF_c (c := c2) (rb := w.heap.size) (fun x => !fitsE gs x.k x.a) HH.out.2.1 (HH.out.2.2.1.below hI2.be) hn (fun W hW x hx => fitsc_c (c := c) HH.out.1 (hI2.row.below hW) HG.out ((HH.out.2.2.1.rd x hx).below (hI2.be.trans (hW.mono hI2.be.size))) (HH.out.2.2.2 x hx).1 (HH.out.2.2.2 x hx).2 ((hW.block _ (blk_lt hI2.bx)).trans hI2.bx)))
           have HI2 := Aside0.mk hI2
           clear hI2 hb2)
        | (go_at_call 20; refine HCO.out.mono ?_; rintro e w3 ⟨rfl, hb3⟩)
        | fail)
      go_ret
      exact ⟨by unfold fitsAll; rw [E1.out, HG.out]; rfl, HI2.out.be.trans (hb3.mono HI2.out.be.size)⟩
/-- Whether each key is ahead of the next. -/
def adjB (es : List Ent) : Bool := (List.range (es.length - 1)).all fun t => lts ((es.map Ent.k).getD t []) ((es.map Ent.k).getD (t + 1) [])
noncomputable def chk (gs : Gr) (keep m : Int) (es : List Ent) : Int :=
  if rightR gs keep = true then (if 0 ≤ m ∧ m ≤ 1099511627776 then (if adjB es = true then (if fitsAll gs keep es = true then 0 else 3) else 50) else 1) else 30
theorem adj_bad {es : List Ent} {j : Nat} (hj : j + 1 < es.length) (h : lts (es[j]'(by omega)).k es[j + 1].k = false) : adjB es = false := by
  cases ha : adjB es with
  | false => rfl
  | true =>
    have := List.all_eq_true.1 ha j (List.mem_range.2 (by omega))
    rw [List.getD_eq_getElem?_getD, List.getD_eq_getElem?_getD, List.getElem?_map, List.getElem?_map, List.getElem?_eq_getElem (by omega), List.getElem?_eq_getElem hj] at this
    simp only [Option.map_some, Option.getD_some] at this
    rw [h] at this
    cases this
theorem adj_good {es : List Ent} (h : ∀ j (hj : j + 1 < es.length), lts (es[j]'(by omega)).k es[j + 1].k = true) : adjB es = true := by
  refine List.all_eq_true.2 fun j hj => ?_
  have hj' := List.mem_range.1 hj
  rw [List.getD_eq_getElem?_getD, List.getD_eq_getElem?_getD, List.getElem?_map, List.getElem?_map, List.getElem?_eq_getElem (by omega), List.getElem?_eq_getElem (by omega)]
  exact h j (by omega)
set_option maxRecDepth 100000 in
set_option maxHeartbeats 4000000 in
theorem check_c {w : World} {R R2 : Option Addr} {b o c b2 o2 c2 : Nat} {gs : Gr} {keep m : Int} {es : List Ent} (hR : gs ≠ [] → R = some ⟨b, o, none⟩) (h : GRow w b o gs) (hl : (gs.length : Int) ≤ 9223372036854775807) (hR2 : es ≠ [] → R2 = some ⟨b2, o2, none⟩) (he : EnRow w b2 o2 es) (hn : es.length ≤ 4096) (hok : EnOk es) :
    Calls Try.prog 19 #[rulV R gs.length c keep, .int .i64 m, .slice R2 es.length c2] w fun e w' => e = .returned (.int .i64 (chk gs keep m es)) ∧ Below w.heap.size w w' := by
  have hI : RuI w R b o c gs keep (w.alloc (.cells #[.slice R gs.length c, .int .i64 keep] 24)) := ⟨(Below.refl _ w).alloc (Nat.le_refl _) _, al_new rfl, h.below ((Below.refl _ w).alloc (Nat.le_refl _) _)⟩
  obtain ⟨k0, k1⟩ := hI.c
  have HGR := Aside0.mk (gright_c (c := c) (keep := keep) hR hI.row hl)
  have HI := Aside0.mk hI
  have HH := Aside0.mk (And.intro hR (And.intro hR2 (And.intro he hok)))
  have HL := Aside0.mk hl
  unfold rulV at HGR ⊢
  clear hI hR h hR2 he hok hl
  cases hg : rightR gs keep with
  | false =>
    rw [hg] at HGR
    have HG := Aside0.mk hg
    clear hg
    go_enter Try.func19, Try.ntmps19
    go_wp2_with (first | (go_at_call 39; refine HGR.out.mono ?_; rintro e w2 ⟨rfl, hb2⟩) | fail)
    go_ret
    exact ⟨by unfold chk; rw [HG.out]; rfl, HI.out.be.trans (hb2.mono HI.out.be.size)⟩
  | true =>
  rw [hg] at HGR
  have HG := Aside0.mk hg
  clear hg
  by_cases m1 : 0 ≤ m
  case neg =>
    have a1 : decide (m < 0) = true := decide_eq_true (by omega)
    go_enter Try.func19, Try.ntmps19
    go_wp2_with (first | (go_at_call 39; refine HGR.out.mono ?_; rintro e w2 ⟨rfl, hb2⟩) | fail)
    go_ret
    exact ⟨by unfold chk; rw [HG.out, if_pos rfl, if_neg (by omega)]; rfl, HI.out.be.trans (hb2.mono HI.out.be.size)⟩
  have a1 : decide (m < 0) = false := decide_eq_false (by omega)
  by_cases m2 : m ≤ 1099511627776
  case neg =>
    have a2 : decide (1099511627776 < m) = true := decide_eq_true (by omega)
    go_enter Try.func19, Try.ntmps19
    go_wp2_with (first | (go_at_call 39; refine HGR.out.mono ?_; rintro e w2 ⟨rfl, hb2⟩) | fail)
    go_ret
    exact ⟨by unfold chk; rw [HG.out, if_pos rfl, if_neg (by omega)]; rfl, HI.out.be.trans (hb2.mono HI.out.be.size)⟩
  have a2 : decide (1099511627776 < m) = false := decide_eq_false (by omega)
  have hck : chk gs keep m es = if adjB es = true then (if fitsAll gs keep es = true then 0 else 3) else 50 := by unfold chk; rw [HG.out, if_pos rfl, if_pos ⟨m1, m2⟩]
  have HCK := Aside0.mk hck
  clear hck m1 m2
  go_enter Try.func19, Try.ntmps19
  go_wp2_with (first
    | (go_at_call 39
       refine HGR.out.mono ?_
       rintro e w2 ⟨rfl, hb2⟩
       have HI2 := Aside0.mk (HI.out.below hb2)
       clear hb2)
    | fail)
  clear k0 k1 a1 a2 HI HGR
  go_loopw [21] (fun i wr => ∃ (j : Nat), i = .int .i64 j ∧ j ≤ es.length ∧ Aside0 (∀ t (ht : t + 1 < es.length), t + 1 < j → lts (es[t]'(by omega)).k es[t + 1].k = true) ∧ Aside0 (RuI w R b o c gs keep wr)) (fun i _ => es.length - (intOf i).toNat)
  case atStart => exact ⟨0, rfl, by omega, ⟨fun t _ h => absurd h (Nat.not_lt_zero _)⟩, HI2⟩
  case round =>
    clear HI2
    obtain ⟨j, rfl, hj, HJ, HI⟩ := hrel
    by_cases hlt : j < es.length
    · have t1 : decide (j < es.length) = true := decide_eq_true hlt
      by_cases h0 : j = 0
      · subst h0
        go_wp2_with fail
        go_quiet (fail)
        go_wp2_with fail
        go_roundw
        case rel => exact ⟨1, by go_num, by omega, ⟨fun t _ h => by omega⟩, ⟨HI.out.below (bdrewN (Below.refl _ _))⟩⟩
        case measure => simp [intOf]; omega
      · obtain ⟨i, rfl⟩ : ∃ i, j = i + 1 := ⟨j - 1, by omega⟩
        have hli : i < es.length := by omega
        obtain rfl := HH.out.2.1 (by intro e; rw [e] at hlt; simp at hlt)
        have hE := HH.out.2.2.1.below HI.out.be
        have x0 := (hE.cells hlt).1
        have y0 := (hE.cells hli).1
        have hrx := (hE.rd _ (List.getElem_mem hlt)).k
        have hry := (hE.rd _ (List.getElem_mem hli)).k
        have hbx := (HH.out.2.2.2 _ (List.getElem_mem hlt)).1
        have hby := (HH.out.2.2.2 _ (List.getElem_mem hli)).1
        have hbd := adj_bad hlt
        have HLT := Aside0.mk (fun (h : lts es[i].k es[i + 1].k = true) t (ht : t + 1 < es.length) (hh : t + 1 < i + 1 + 1) => (by
          by_cases e : t = i
          · subst e; exact h
          · exact HJ.out t ht (by omega) : lts (es[t]'(by omega)).k es[t + 1].k = true))
        generalize es[i] = y at *
        generalize es[i + 1] = x at *
        have hcm := fun n => compare_c (w := wr.drewN n) (c := y.c) (d := x.c) (hry.below (bdrewN (Below.refl _ _))) (hrx.below (bdrewN (Below.refl _ _)))
        have HCM := Aside0.mk (fun n => (hcm n).mono fun e w' (h : e = .returned (.int .i64 (cmpB y.k x.k)) ∧ wr.drewN n = w') => (⟨h.1, h.2.symm⟩ : e = .returned (.int .i64 (cmpB y.k x.k)) ∧ w' = wr.drewN n))
        have hcl := cmpB_lts hby hbx
        have e1 : IntKind.i64.wrap ((i : Int) + 1 - 1) = (i : Int) := by rw [IntKind.wrap_i64]; omega
        have g1 : (i : Int) + 1 < (es.length : Int) := by omega
        have g2 : (i : Int) < (es.length : Int) := by omega
        have g3 : (0 : Int) < (i : Int) + 1 := by omega
        clear hE hrx hry hbx hby hcm
        cases hll : lts y.k x.k with
        | true =>
          have b1 : decide (0 ≤ cmpB y.k x.k) = false := decide_eq_false (by have := hcl.2 hll; omega)
          have HLL := Aside0.mk (HLT.out hll)
          clear hll hcl hbd
          go_wp2_with fail
          go_quiet (first | (go_at_call 26; refine Calls.quiet_of_same (HCM.out _)))
          go_wp2_with fail
          go_roundw
          case rel => exact ⟨i + 1 + 1, by go_num, by omega, HLL, ⟨HI.out.below (bdrewN (Below.refl _ _))⟩⟩
          case measure => simp [intOf]; omega
        | false =>
          have b1 : decide (0 ≤ cmpB y.k x.k) = true := decide_eq_true (by
            refine Decidable.byContradiction fun hn => ?_
            have := hcl.1 (by omega)
            rw [hll] at this
            cases this)
          have HBD := Aside0.mk (hbd hll)
          clear hll hcl hbd
          go_wp2_with fail
          go_quiet (first | (go_at_call 26; refine Calls.quiet_of_same (HCM.out _)))
          go_wp2_with fail
          go_ret
          exact ⟨by rw [HCK.out, HBD.out]; rfl, bdrewN HI.out.be⟩
    · obtain rfl : j = es.length := by omega
      have t1 : decide (es.length < es.length) = false := decide_eq_false hlt
      obtain ⟨k0, k1⟩ := HI.out.c
      have had := adj_good fun t ht => HJ.out t ht ht
      have HAD := Aside0.mk had
      have HFA := Aside0.mk (fitsall_c (c := c) (c2 := c2) (keep := keep) HH.out.1 HI.out.row HL.out HH.out.2.1 (HH.out.2.2.1.below HI.out.be) hn HH.out.2.2.2)
      unfold rulV at HFA
      clear had
      cases hf : fitsAll gs keep es with
      | true =>
        rw [hf] at HFA
        have HF := Aside0.mk hf
        clear hf
        go_wp2_with (first | (go_at_call 40; refine HFA.out.mono ?_; rintro e w3 ⟨rfl, hb3⟩) | fail)
        go_ret
        exact ⟨by rw [HCK.out, HAD.out, HF.out]; rfl, HI.out.be.trans (hb3.mono HI.out.be.size)⟩
      | false =>
        rw [hf] at HFA
        have HF := Aside0.mk hf
        clear hf
        go_wp2_with (first | (go_at_call 40; refine HFA.out.mono ?_; rintro e w3 ⟨rfl, hb3⟩) | fail)
        go_ret
        exact ⟨by rw [HCK.out, HAD.out, HF.out]; rfl, HI.out.be.trans (hb3.mono HI.out.be.size)⟩
/-- Whether folding would change an entry. -/
noncomputable def staleE (gs : Gr) (keep m : Int) (k : List Int) : Bool := goneG gs keep m (rdK k).2.1 || !(decide (atB gs m k = k))
theorem bequal_c {w : World} {A B : Option Addr} {c d : Nat} {k l : List Int} (hk : RdB w A k) (hl : RdB w B l) (hbk : Byt k) (hbl : Byt l) :
    Calls Try.prog 23 #[.slice A k.length c, .slice B l.length d] w fun e w' => e = .returned (.bool (decide (k = l))) ∧ Below w.heap.size w w' := by
  have hcv1 := Kd.C_string (P := Try.prog) (A := A) (c := c) Try.underlying49 Try.underlying5 Try.underlying9 hk
  have hcv2 := Kd.C_string (P := Try.prog) (A := B) (c := d) Try.underlying49 Try.underlying5 Try.underlying9 hl
  go_enter Try.func23, Try.ntmps23
  go_wp2_with fail
  go_ret
  refine ⟨?_, Below.refl _ _⟩
  have e : ((strOfNums k).toList == (strOfNums l).toList) = decide (k = l) := by
    by_cases h : k = l
    · subst h; simp
    · rw [decide_eq_false h]
      exact beq_eq_false_iff_ne.2 fun h' => h ((byt_eq hbk hbl).1 h')
  show Ending.returned (.bool ((strOfNums k).toList == (strOfNums l).toList)) = _
  rw [e]
theorem chk_zero {gs : Gr} {keep m : Int} {es : List Ent} (h : chk gs keep m es = 0) : rightR gs keep = true ∧ TmOk m ∧ adjB es = true ∧ ∀ x ∈ es, fitsE gs x.k x.a = true := by
  unfold chk at h
  split at h
  · rename_i h1
    split at h
    · rename_i h2
      split at h
      · rename_i h3
        split at h
        · rename_i h4
          refine ⟨h1, h2, h3, fun x hx => ?_⟩
          unfold fitsAll at h4
          rw [Bool.or_eq_true] at h4
          rcases h4 with h4 | h4
          · rw [List.isEmpty_iff.1 h4] at hx
            cases hx
          · rw [Bool.and_eq_true] at h4
            cases hf : fitsE gs x.k x.a with
            | true => rfl
            | false =>
              have : (es.any fun x => !fitsE gs x.k x.a) = true := List.any_eq_true.2 ⟨x, hx, by simp [hf]⟩
              rw [this] at h4
              cases h4.2
        · cases h
      · cases h
    · cases h
  · cases h
theorem kok_pos {gs : Gr} {k : List Int} (h : KOk gs k) : 1 ≤ k.length := by
  have e := h.kbe
  rw [kb_eq] at e
  rw [e]
  simp only [List.length_append, List.length_cons]
  omega
theorem at_byt {gs : Gr} {keep m : Int} {k : List Int} (h : KOk gs k) (hr : RightR gs keep) : Byt (atB gs m k) ∧ 1 ≤ (atB gs m k).length := ⟨(h.at_ok (m := m) hr).byt, kok_pos (h.at_ok (m := m) hr)⟩
set_option maxRecDepth 100000 in
set_option maxHeartbeats 2000000 in
theorem stalec_c {w : World} {R : Option Addr} {b o c rb mb : Nat} {gs : Gr} {keep m : Int} {x : Ent} (hR : gs ≠ [] → R = some ⟨b, o, none⟩) (h : GRow w b o gs) (hg : rightR gs keep = true) (hm : TmOk m) (hx : x.rw w) (hk : KOk gs x.k) (hrb : w.heap[rb]? = some (.cells #[.slice R gs.length c, .int .i64 keep] 24 (0, 0))) (hmb : w.heap[mb]? = some (.cells #[.int .i64 m] 2 (0, 0))) :
    Calls Try.prog 21 #[x.v, .pointer (some ⟨rb, 0, none⟩), .pointer (some ⟨mb, 0, none⟩)] w fun e w' => e = .returned (.bool (staleE gs keep m x.k)) ∧ Below w.heap.size w w' := by
  obtain ⟨A, ck, k, a⟩ := x
  have hB := (Below.refl _ w).alloc (Nat.le_refl _) (.cells #[.slice A k.length ck, .int .u64 a.c, .bool a.o, .int .i64 a.hi, .int .u64 a.lo, .int .i64 a.mn, .int .i64 a.mx] 56)
  have hE := al_new (W := w) (o := .cells #[.slice A k.length ck, .int .u64 a.c, .bool a.o, .int .i64 a.hi, .int .u64 a.lo, .int .i64 a.mn, .int .i64 a.mx] 56) rfl
  have k0 := cell_below hB ((blk_cell hrb 0).trans rfl : w.cell? ⟨rb, 0, none⟩ = some (.slice R gs.length c))
  have k1 := cell_below hB ((blk_cell hrb 1).trans rfl : w.cell? ⟨rb, 1, none⟩ = some (.int .i64 keep))
  have k2 := cell_below hB ((blk_cell hmb 0).trans rfl : w.cell? ⟨mb, 0, none⟩ = some (.int .i64 m))
  have HA := Aside0.mk (at_c (c := c) hR (h.below hB) hg hm (hx.k.below hB) hx.kc hk)
  have HK := Aside0.mk hk
  have HX := Aside0.mk hx
  have HB := Aside0.mk hB
  have HE := Aside0.mk hE
  have HBY := Aside0.mk (at_byt (m := m) hk (rightR_iff hg))
  unfold Ent.v entV
  unfold rulV at HA
  simp only at HA HK HX HBY ⊢
  unfold staleE
  generalize hgo : goneG gs keep m (rdK k).2.1 = gone at *
  clear hR h hg hm hx hk hrb hmb hB hE hgo
  go_enter Try.func21, Try.ntmps21
  go_upto_region 2 with (first
    | (go_at_call 22
       refine HA.out.mono ?_
       rintro e w2 ⟨v, rfl, ho2, hb2⟩
       obtain ⟨A2, c2, rfl, hr2, hc2⟩ := own_b ho2 HBY.out.2)
    | fail)
  have hE2 := (hb2.block _ (blk_lt HE.out)).trans HE.out
  have y0 : w2.cell? ⟨w.heap.size, 0, none⟩ = some (.slice A k.length ck) := (blk_cell hE2 0).trans rfl
  have hBB := HB.out.trans (hb2.mono HB.out.size)
  have HEQ := Aside0.mk (bequal_c (c := c2) (d := ck) hr2 (HX.out.k.below hBB) HBY.out.1 HK.out.byt)
  have HBB := Aside0.mk hBB
  clear hE2 hBB ho2 hr2 hb2
  cases gone with
  | true =>
    go_wp2_with fail
    go_ret
    exact ⟨by simp, HBB.out⟩
  | false =>
    go_wp2_with (first | (go_at_call 23; refine HEQ.out.mono ?_; rintro e w3 ⟨rfl, hb3⟩) | fail)
    go_ret
    exact ⟨by simp, HBB.out.trans (hb3.mono HBB.out.size)⟩
set_option maxRecDepth 100000 in
set_option maxHeartbeats 2000000 in
theorem stale_c {w : World} {R R2 : Option Addr} {b o c b2 o2 c2 : Nat} {gs : Gr} {keep m : Int} {es : List Ent} (hR : gs ≠ [] → R = some ⟨b, o, none⟩) (h : GRow w b o gs) (hl : (gs.length : Int) ≤ 9223372036854775807) (hR2 : es ≠ [] → R2 = some ⟨b2, o2, none⟩) (he : EnRow w b2 o2 es) (hn : es.length ≤ 4096) (hok : EnOk es) :
    Calls Try.prog 11 #[rulV R gs.length c keep, .int .i64 m, .slice R2 es.length c2] w fun e w' => ∃ r, e = .returned (.tuple #[.bool r, .int .i64 (chk gs keep m es)]) ∧ (chk gs keep m es = 0 → r = es.any fun x => staleE gs keep m x.k) ∧ Below w.heap.size w w' := by
  have hI : RuI w R b o c gs keep (w.alloc (.cells #[.slice R gs.length c, .int .i64 keep] 24)) := ⟨(Below.refl _ w).alloc (Nat.le_refl _) _, al_new rfl, h.below ((Below.refl _ w).alloc (Nat.le_refl _) _)⟩
  have hI1 := hI.below ((Below.refl _ _).alloc (Nat.le_refl _) (.cells #[.int .i64 m] 2))
  have hM1 := al_new (W := w.alloc (.cells #[.slice R gs.length c, .int .i64 keep] 24)) (o := .cells #[.int .i64 m] 2) rfl
  rw [World.size_alloc] at hM1
  obtain ⟨k0, k1⟩ := hI1.c
  have k2 : ((w.alloc (.cells #[.slice R gs.length c, .int .i64 keep] 24)).alloc (.cells #[.int .i64 m] 2)).cell? ⟨w.heap.size + 1, 0, none⟩ = some (.int .i64 m) := (blk_cell hM1 0).trans rfl
  have HCK := Aside0.mk (check_c (c := c) (c2 := c2) (keep := keep) (m := m) hR hI1.row hl hR2 (he.below hI1.be) hn hok)
  have HI1 := Aside0.mk hI1
  have HM1 := Aside0.mk hM1
  have HH := Aside0.mk (And.intro hR (And.intro hR2 (And.intro he hok)))
  have HZ := Aside0.mk (chk_zero (gs := gs) (keep := keep) (m := m) (es := es))
  unfold rulV at HCK ⊢
  clear hI hI1 hM1 hR h hR2 he hok hl
  by_cases hz : chk gs keep m es = 0
  · have HZ2 := Aside0.mk (HZ.out hz)
    rw [hz] at HCK ⊢
    clear hz HZ
    go_enter Try.func11, Try.ntmps11
    go_wp2_with (first
      | (go_at_call 19
         refine HCK.out.mono ?_
         rintro e w2 ⟨rfl, hb2⟩
         have hI2 := HI1.out.below hb2
         have hM2 := (hb2.block _ (blk_lt HM1.out)).trans HM1.out
         have HCO := Aside0.mk (econtS_c (c := c2) (rb := w.heap.size) (mb := w.heap.size + 1) (fun x => staleE gs keep m x.k) HH.out.2.1 (HH.out.2.2.1.below hI2.be) hn (fun W hW x hx => stalec_c (c := c) HH.out.1 (hI2.row.below hW) HZ2.out.1 HZ2.out.2.1 ((HH.out.2.2.1.rd x hx).below (hI2.be.trans (hW.mono hI2.be.size))) (fitsE_kok (HH.out.2.2.2 x hx).1 (HH.out.2.2.2 x hx).2 (HZ2.out.2.2.2 x hx)).1 ((hW.block _ (blk_lt hI2.bx)).trans hI2.bx) ((hW.block _ (blk_lt hM2)).trans hM2)))
         have HI2 := Aside0.mk hI2
         clear hI2 hM2 hb2)
      | (go_at_call 20; refine HCO.out.mono ?_; rintro e w3 ⟨rfl, hb3⟩)
      | fail)
    go_ret2
    exact ⟨_, rfl, fun _ => rfl, HI2.out.be.trans (hb3.mono HI2.out.be.size)⟩
  · have e0 : (chk gs keep m es != 0) = true := by simp [hz]
    have HNZ := Aside0.mk hz
    clear hz
    generalize chk gs keep m es = q at *
    go_enter Try.func11, Try.ntmps11
    go_wp2_with (first
      | (go_at_call 19
         refine HCK.out.mono ?_
         rintro e w2 ⟨rfl, hb2⟩)
      | fail)
    go_ret2
    exact ⟨false, rfl, fun h => absurd h HNZ.out, HI1.out.be.trans (hb2.mono HI1.out.be.size)⟩
end Go.Proofs.Ytoikaegohkolkaa.Top
namespace Go.Proofs.Ytoikaegohkolkaa.Top
set_option linter.unusedSimpArgs false
set_option linter.unusedVariables false
open Go.RowKit Go.Proofs.YtoikaegohkolkaaW.PrintWords Go.Proofs.YtoikaegohkolkaaW.PrintLast Go.Proofs.YtoikaegohkolkaaW.PrintMore Go.Proofs.Ytoikaegohkolkaa.Plain
theorem cmpB_zero : ∀ {k l : List Int}, Byt k → Byt l → (cmpB k l = 0 ↔ k = l)
  | [], [], _, _ => by simp [cmpB, Lib.bytesOf, Lib.compareBytes]
  | [], _ :: _, _, _ => by simp [cmpB, Lib.bytesOf, Lib.compareBytes]
  | _ :: _, [], _, _ => by simp [cmpB, Lib.bytesOf, Lib.compareBytes]
  | a :: k, b :: l, hk, hl => by
    have ha := hk a (by simp)
    have hb := hl b (by simp)
    have ih := cmpB_zero (k := k) (l := l) (fun x hx => hk x (by simp [hx])) (fun x hx => hl x (by simp [hx]))
    obtain ⟨n, rfl⟩ := Int.eq_ofNat_of_zero_le ha.1
    obtain ⟨m, rfl⟩ := Int.eq_ofNat_of_zero_le hb.1
    have h1 : ((n : Int).toNat.toUInt8 < (m : Int).toNat.toUInt8) ↔ n < m := by
      rw [Int.toNat_natCast, Int.toNat_natCast, UInt8.lt_iff_toNat_lt]
      simp [Nat.toUInt8, UInt8.toNat_ofNat']
      omega
    have h2 : ((m : Int).toNat.toUInt8 < (n : Int).toNat.toUInt8) ↔ m < n := by
      rw [Int.toNat_natCast, Int.toNat_natCast, UInt8.lt_iff_toNat_lt]
      simp [Nat.toUInt8, UInt8.toNat_ofNat']
      omega
    unfold cmpB at ih ⊢
    simp only [Lib.bytesOf, List.map_cons, Lib.compareBytes] at ih ⊢
    by_cases hnm : n < m
    · rw [if_pos (h1.2 hnm)]
      simp; omega
    · rw [if_neg (fun h => hnm (h1.1 h))]
      by_cases hmn : m < n
      · rw [if_pos (h2.2 hmn)]
        simp; omega
      · rw [if_neg (fun h => hmn (h2.1 h)), ih]
        have : n = m := by omega
        subst this
        simp
theorem foldc_c {w : World} {B : Option Addr} {e' : Nat} {x : Ent} {l : List Int} (hx : x.rw w) (hl : RdB w B l) : Calls Try.prog 25 #[x.v, .slice B l.length e'] w fun e w' => e = .returned (.int .i64 (cmpB x.k l)) ∧ Below w.heap.size w w' := by
  obtain ⟨A, ck, k, a⟩ := x
  have hB := (Below.refl _ w).alloc (Nat.le_refl _) (.cells #[.slice A k.length ck, .int .u64 a.c, .bool a.o, .int .i64 a.hi, .int .u64 a.lo, .int .i64 a.mn, .int .i64 a.mx] 56)
  have hc := compare_c (c := ck) (d := e') (hx.k.below hB) (hl.below hB)
  unfold Ent.v entV
  simp only at hc ⊢
  clear hx hl
  go_enter Try.func25, Try.ntmps25
  go_wp2_with (first | (go_at_call 26; refine hc.mono ?_; rintro e w2 ⟨rfl, rfl⟩) | fail)
  go_ret
  exact ⟨rfl, hB⟩
set_option maxRecDepth 100000 in
set_option maxHeartbeats 4000000 in
theorem esearch_c {w : World} {b o c lc : Nat} {R A : Option Addr} {k : List Int} {es : List Ent} (hR : es ≠ [] → R = some ⟨b, o, none⟩) (he : EnRow w b o es) (hs : Srt (es.map Ent.ka)) (hbk : ∀ x ∈ es, Byt x.k) (hn : es.length ≤ 4096) (hk : RdB w A k) (hb : Byt k) :
    Calls Try.prog 24 #[.slice R es.length c, .slice A k.length lc, .func (.func 25) #[] #[]] w fun e w' => ∃ (i : Nat) (q : Bool), e = .returned (.tuple #[.int .i64 i, .bool q]) ∧ i ≤ es.length ∧ (∀ j (h : j < es.length), j < i → lts es[j].k k = true) ∧ (∀ j (h : j < es.length), i ≤ j → lts es[j].k k = false) ∧ (q = true ↔ ∃ h : i < es.length, es[i].k = k) ∧ Below w.heap.size w w' := by
  have HR := Aside0.mk hR
  have HE := Aside0.mk he
  have HBK := Aside0.mk hbk
  have HK := Aside0.mk hk
  have HB := Aside0.mk hb
  have hmon : ∀ i j (hi : i < es.length) (hj : j < es.length), i ≤ j → lts es[j].k k = true → lts es[i].k k = true := fun i j hi hj hij h => by
    rcases Nat.lt_or_eq_of_le hij with h1 | rfl
    · have h2 := (List.pairwise_iff_getElem.1 hs) i j (by simpa using hi) (by simpa using hj) h1
      simp only [List.getElem_map] at h2
      exact lts_tr _ _ _ h2 h
    · exact h
  have HM := Aside0.mk hmon
  clear hR he hs hbk hk hb hmon
  go_enter Try.func24, Try.ntmps24
  go_wp2_with fail
  go_loopw [9, 10] (fun iv jv wr => ∃ i j : Nat, i ≤ j ∧ j ≤ es.length ∧ iv = .int .i64 i ∧ jv = .int .i64 j ∧ Aside0 (∀ q (h : q < es.length), q < i → lts es[q].k k = true) ∧ Aside0 (∀ q (h : q < es.length), j ≤ q → lts es[q].k k = false) ∧ Aside0 (Below w.heap.size w wr)) (fun iv jv _ => (intOf jv).toNat - (intOf iv).toNat)
  case atStart => exact ⟨0, es.length, by omega, by omega, rfl, rfl, ⟨fun q _ h => by omega⟩, ⟨fun q h h' => by omega⟩, ⟨Below.refl _ _⟩⟩
  case round =>
    obtain ⟨i, j, hij, hj, rfl, rfl, HA, HZ, HBB⟩ := hrel
    by_cases hlt : i < j
    · have t1 : decide (i < j) = true := decide_eq_true hlt
      obtain ⟨m, hm⟩ : ∃ m, m = (i + j) / 2 := ⟨_, rfl⟩
      have hmi : i ≤ m ∧ m < j := by omega
      have hmm : ((i : Int) + (j : Int)) / 2 = (m : Int) := by omega
      have hml : m < es.length := by omega
      obtain rfl := HR.out (by intro e; rw [e] at hml; simp at hml)
      have hE := HE.out.below HBB.out
      obtain ⟨x0, x1, x2, x3, x4, x5, x6⟩ := hE.cells hml
      have hkb := HBK.out _ (List.getElem_mem hml)
      have hc := foldc_c (e' := lc) (hE.rd _ (List.getElem_mem hml)) (HK.out.below HBB.out)
      have HM2 := Aside0.mk (cmpB_lts hkb HB.out)
      have HMM := Aside0.mk hm
      have HMN := Aside0.mk (fun q hq hqm h => HM.out q m hq hml hqm h)
      have HMP := Aside0.mk (fun q hq hqm h => HM.out m q hml hq hqm h)
      have hs := HBB.out.size
      clear hm hkb hE
      generalize es[m] = x at *
      unfold Ent.v entV at hc
      have HC := Aside0.mk hc
      clear hc
      by_cases hl : lts x.k k = true
      · have t2 : decide (cmpB x.k k < 0) = true := decide_eq_true (HM2.out.2 hl)
        have HL := Aside0.mk hl
        clear hl
        go_wp2_with (first | (refine HC.out.mono ?_; rintro e w2 ⟨rfl, hb2⟩) | fail)
        go_roundw
        case rel => exact ⟨m + 1, j, by omega, hj, by go_num, rfl, ⟨fun q hq hqm => HMN.out q hq (by omega) HL.out⟩, HZ, ⟨HBB.out.trans (hb2.mono hs)⟩⟩
        case measure => simp [intOf]; omega
      · have t2 : decide (cmpB x.k k < 0) = false := decide_eq_false (fun h => hl (HM2.out.1 h))
        have HL := Aside0.mk hl
        clear hl
        go_wp2_with (first | (refine HC.out.mono ?_; rintro e w2 ⟨rfl, hb2⟩) | fail)
        go_roundw
        case rel => exact ⟨i, m, by omega, by omega, rfl, by go_num, HA, ⟨fun q hq hqm => by
          cases hz : lts es[q].k k with
          | false => rfl
          | true => exact absurd (HMP.out q hq hqm hz) HL.out⟩, ⟨HBB.out.trans (hb2.mono hs)⟩⟩
        case measure => simp [intOf]; omega
    · obtain rfl : i = j := by omega
      have t1 : decide (i < i) = false := decide_eq_false hlt
      by_cases hil : i < es.length
      · have t2 : decide (i < es.length) = true := decide_eq_true hil
        obtain rfl := HR.out (by intro e; rw [e] at hil; simp at hil)
        have hE := HE.out.below HBB.out
        obtain ⟨x0, x1, x2, x3, x4, x5, x6⟩ := hE.cells hil
        have hc := foldc_c (e' := lc) (hE.rd _ (List.getElem_mem hil)) (HK.out.below HBB.out)
        have HM2 := Aside0.mk (cmpB_zero (HBK.out _ (List.getElem_mem hil)) HB.out)
        have hs := HBB.out.size
        clear hE
        have HEQ := Aside0.mk (show (∃ h : i < es.length, es[i].k = k) ↔ es[i].k = k from ⟨fun ⟨_, h⟩ => h, fun h => ⟨hil, h⟩⟩)
        generalize es[i] = x at *
        unfold Ent.v entV at hc
        have HC := Aside0.mk hc
        clear hc
        go_wp2_with (first | (refine HC.out.mono ?_; rintro e w2 ⟨rfl, hb2⟩) | fail)
        refine bodyPost_ret (results_tmp2 rfl _ _ _) rfl ?_
        refine ⟨i, _, rfl, hj, HA.out, HZ.out, ?_, HBB.out.trans (hb2.mono hs)⟩
        rw [HEQ.out]
        exact beq_iff_eq.trans HM2.out
      · have t2 : decide (i < es.length) = false := decide_eq_false hil
        go_wp2_with fail
        refine bodyPost_ret (results_tmp2 rfl _ _ _) rfl ?_
        exact ⟨i, _, rfl, hj, HA.out, HZ.out, ⟨fun h => by simp at h, fun ⟨h, _⟩ => absurd h hil⟩, HBB.out⟩
end Go.Proofs.Ytoikaegohkolkaa.Top
