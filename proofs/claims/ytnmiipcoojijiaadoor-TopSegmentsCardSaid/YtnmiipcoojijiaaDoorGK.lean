/-
  wal.Read on a record's bytes, and a log's Add and Sync; conditions: those that each theorem states.
-/
import Derived.Test.YtnmiipcoojijiaaDoorZRbatch
namespace Go.Proofs.YtnmiipcoojijiaaDoor.Top
set_option linter.unusedSimpArgs false
set_option linter.unusedVariables false
open Go.RowKit Go.Proofs.YtnmiipcoojijiaaDoorW.PrintWords Go.Proofs.YtnmiipcoojijiaaDoorW.PrintLast Go.Proofs.YtnmiipcoojijiaaDoorW.PrintMore Go.Proofs.YtnmiipcoojijiaaDoor.Plain Go.Proofs.YtnmiipcoojijiaaDoor.Fns
theorem readrec_c {w : World} {a : Addr} {c n : Nat} {l : List Lib.S59} {m : Int} (hok : rightR l m = true) (hvi : ∀ s ∈ l, -9223372036854775808 ≤ s.f2 ∧ s.f2 < 9223372036854775808) (hn : n = (recB l m).length) (hr : RdB w (some a) (recB l m)) (hty : ∃ cs, w.heap[a.block]? = some (.cells cs 5 (0, 0))) (hc : n ≤ c) :
    Calls Tryd.prog 28 #[.slice (some a) n c] w (ReadR l m w) := by
  have hl4 := recB_len hok
  by_cases h0 : l.length = 0
  · have : l = [] := List.length_eq_zero_iff.1 h0
    subst this
    have hb : recB [] m = 2 :: numB m := rfl
    rw [hb, List.length_cons, numB_len] at hn
    subst hn
    rw [hb] at hr
    exact rmark_c (right_mark hok rfl) hr hc
  · obtain ⟨h1, h16, hm⟩ := right_facts hok h0
    subst h1
    have hb : recB l (-1) = (1 :: sh l.length) ++ l.flatMap factB := by unfold recB; rw [if_neg h0]
    rw [hb] at hr hn
    exact rbatch_c h0 h16 (fun s hs => ⟨hm s hs, hvi s hs⟩) hn hr hty hc (by rw [hn, ← hb]; omega)
/-- What Add gives. -/
def AddR (F : Fs) (q b : Nat) (l : List Lib.S59) (m : Int) (w : World) (e : Ending) (w' : World) : Prop :=
  ∃ (g : Int) (F' : Fs), e = .returned (.int .i64 g) ∧ FsAt F' q w' ∧ KeepFs F.lo w w' ∧ (rightR l m = false → g = 90) ∧ (rightR l m = true → AppS F F' b (frameF (recB l m)) g ∧
    (∀ n, F.dm = upd nob n b → F.room ≤ 1000000 → ((frameF (recB l m)).length : Int) ≤ F.room - (F.fd b).1.length → (F.fd b).1.length + (frameF (recB l m)).length ≤ 1000000 → g = F.pw))
set_option maxRecDepth 100000 in
set_option maxHeartbeats 8000000 in
theorem add_c {w : World} {F : Fs} {q n b lb : Nat} {r : Rc} (h : FsAt F q w) (hn : F.dm n = some b) (hl : w.heap[lb]? = some (logC F.fb n)) (hr : r.rd w) (hm : -9223372036854775808 ≤ r.m ∧ r.m < 9223372036854775808) :
    Calls Tryd.prog 9 #[.pointer (some ⟨lb, 0, none⟩), r.v] w (AddR F q b r.fs r.m w) := by
  have HA : ∀ o, Below w.heap.size w (w.alloc o) := fun o => (Below.refl _ w).alloc (Nat.le_refl _) o
  have HW := Aside0.mk (fun (W : World) (hb : Below w.heap.size w W) => write_c (hr.below hb) hm)
  have HLC := Aside0.mk (fun (W : World) (hb : Below w.heap.size w W) => (hb.block _ (blk_lt hl)).trans hl)
  have HAP := Aside0.mk (fun (W : World) (hb : Below w.heap.size w W) (a : Addr) (c : Nat) (hf : RdB W (some a) (frameF (recB r.fs r.m))) (hty : ∃ cs, W.heap[a.block]? = some (.cells cs 5 (0, 0))) (h0 : 0 < (frameF (recB r.fs r.m)).length) (hl : (frameF (recB r.fs r.m)).length ≤ 100000) => append_c (c := c) (h.below hb) hn hf hty h0 hl)
  have H := Aside0.mk h
  have hlb : ∀ W, Below w.heap.size w W → W.cell? ⟨lb, 0, none⟩ = some (.pointer (some ⟨F.fb, 0, none⟩)) ∧ W.cell? ⟨lb, 1, none⟩ = some (.string (segS n)) := fun W hW => by
    have h9 := HLC.out W hW
    exact ⟨(blk_cell h9 0).trans rfl, (blk_cell h9 1).trans rfl⟩
  have HLB := Aside0.mk hlb
  obtain ⟨y0, y1⟩ := hlb _ (HA (.cells #[.slice r.R r.xs.length r.c, .int .i64 r.m] 37))
  unfold Rc.v WriteR at HW
  unfold Rc.v
  cases hq : rightR r.fs r.m with
  | false =>
    clear h hn hl hr hm hlb
    go_enter Tryd.func9, Tryd.ntmps9
    go_wp2_with (first
      | (go_at_call 21; refine (HW.out _ (HA _)).mono ?_; rintro e w2 ⟨hf, _, hb⟩; obtain rfl := hf hq)
      | fail)
    go_ret
    exact ⟨90, F, rfl, H.out.below ((HA _).trans (hb.mono (HA _).size)), H.out.keep ((HA _).trans (hb.mono (HA _).size)), fun _ => rfl, fun h => absurd (hq.symm.trans h) (by decide)⟩
  | true =>
    have hrl := recB_len hq
    have hfl : (frameF (recB r.fs r.m)).length = (recB r.fs r.m).length + 8 := frameF_len _
    have HQ := Aside0.mk hq
    have HRL := Aside0.mk (And.intro hrl hfl)
    have HFR := Aside0.mk (fun (W : World) (A : Option Addr) (c : Nat) (hd : RdB W A (recB r.fs r.m)) (hc0 : A = none → c = 0) (hc : (recB r.fs r.m).length ≤ c) => frame_c hd hc0 hc (recB_byt _ _) (by omega))
    obtain ⟨k, hk⟩ : ∃ k, k = recB r.fs r.m := ⟨_, rfl⟩
    unfold AddR
    rw [← hk] at HFR HW HAP HRL ⊢
    clear h hn hl hr hm hlb hq hrl hfl hk
    go_enter Tryd.func9, Tryd.ntmps9
    go_wp2_with (first
      | (go_at_call 21; refine (HW.out _ (HA _)).mono ?_; rintro e w2 ⟨_, ht, hb⟩
         obtain ⟨v, rfl, ho⟩ := ht HQ.out
         obtain ⟨Av, cv, rfl, hrv, hcv, hzv, _⟩ := own_form ho
         have hb2 := (HA (.cells #[.slice r.R r.xs.length r.c, .int .i64 r.m] 37)).trans (hb.mono (HA _).size))
      | (go_at_call 22; refine (HFR.out _ _ _ hrv hzv hcv).mono ?_; rintro e w3 ⟨v3, rfl, ho3, hb3⟩
         obtain ⟨A3, c3, rfl, hr3, hc3, hz3, hbl3⟩ := own_form ho3
         obtain ⟨a3, rfl⟩ := hr3.some (by rw [HRL.out.2]; omega)
         have hb3' := hb2.trans (hb3.mono hb2.size)
         have hty3 : ∃ cs, w3.heap[a3.block]? = some (.cells cs 5 (0, 0)) := own_typed ho3 _ (hbl3 a3 rfl)
         obtain ⟨x0, x1⟩ := HLB.out _ hb3'
         have HAQ := Aside0.mk (HAP.out w3.drew (bdrew hb3') a3 c3 (hr3.drewN 1) hty3 (by rw [HRL.out.2]; omega) (by rw [HRL.out.2]; have := HRL.out.1; omega))
         have HB3 := Aside0.mk hb3'
         clear ho3 hr3 hc3 hz3 hbl3 hty3 hb3 hb3' hrv hcv hzv ho hb hb2)
      | fail)
    unfold AppR at HAQ
    go_region_held3 (fun w' => w'.cell? ⟨lb, 0, none⟩ = some (.pointer (some ⟨F.fb, 0, none⟩)) ∧ w'.cell? ⟨lb, 1, none⟩ = some (.string (segS n))) (first | exact ⟨by assumption, by assumption⟩ | (trace_state; fail)) (first
      | (go_at_call 23
         refine HAQ.out.mono ?_
         rintro e w9 ⟨g, F', rfl, hf9, hk9, hs9, hx9⟩
         have hl9 := (hk9.ty lb _ _ (HLC.out _ (bdrew HB3.out)) (by decide) (by decide)).trans (HLC.out _ (bdrew HB3.out))
         have z0 : w9.cell? ⟨lb, 0, none⟩ = some (.pointer (some ⟨F.fb, 0, none⟩)) := (blk_cell hl9 0).trans rfl
         have z1 : w9.cell? ⟨lb, 1, none⟩ = some (.string (segS n)) := (blk_cell hl9 1).trans rfl
         have H9 := Aside0.mk (And.intro hf9 (And.intro hk9 (And.intro hs9 hx9)))
         clear hl9 hf9 hk9 hs9 hx9)
      | fail)
    all_goals
      go_wp2_with fail
      go_ret
      exact ⟨g, F', rfl, H9.out.1, (H.out.keep (bdrew HB3.out)).trans H9.out.2.1, fun h => absurd (HQ.out.symm.trans h) (by decide), fun _ => ⟨H9.out.2.2.1, H9.out.2.2.2⟩⟩
/-- A log's Sync. -/
def LsyR (F : Fs) (q b : Nat) (w : World) (e : Ending) (w' : World) : Prop := e = .returned (.int .i64 F.pw) ∧ FsAt (F.syn b) q w' ∧ KeepFs F.lo w w'
set_option maxRecDepth 100000 in
set_option maxHeartbeats 8000000 in
theorem lsync_c {w : World} {F : Fs} {q n b lb : Nat} (h : FsAt F q w) (hn : F.dm n = some b) (hl : w.heap[lb]? = some (logC F.fb n)) : Calls Tryd.prog 10 #[.pointer (some ⟨lb, 0, none⟩)] w (LsyR F q b w) := by
  have y0 : w.cell? ⟨lb, 0, none⟩ = some (.pointer (some ⟨F.fb, 0, none⟩)) := (blk_cell hl 0).trans rfl
  have y1 : w.cell? ⟨lb, 1, none⟩ = some (.string (segS n)) := (blk_cell hl 1).trans rfl
  have HS := Aside0.mk (sync_c (h.below (bdrew (Below.refl _ w))) hn)
  have HK := Aside0.mk (h.keep (bdrew (Below.refl _ w)))
  have HL := Aside0.mk hl
  clear h hn hl
  go_enter Tryd.func10, Tryd.ntmps10
  go_wp2_with fail
  go_region_held3 (fun w' => w'.cell? ⟨lb, 0, none⟩ = some (.pointer (some ⟨F.fb, 0, none⟩)) ∧ w'.cell? ⟨lb, 1, none⟩ = some (.string (segS n))) (first | exact ⟨by assumption, by assumption⟩ | (trace_state; fail)) (first
    | (go_at_call 24
       refine HS.out.mono ?_
       rintro e w9 ⟨rfl, hf9, hk9⟩
       have hl9 := (hk9.ty lb _ _ HL.out (by decide) (by decide)).trans HL.out
       have z0 : w9.cell? ⟨lb, 0, none⟩ = some (.pointer (some ⟨F.fb, 0, none⟩)) := (blk_cell hl9 0).trans rfl
       have z1 : w9.cell? ⟨lb, 1, none⟩ = some (.string (segS n)) := (blk_cell hl9 1).trans rfl
       have H9 := Aside0.mk (And.intro hf9 hk9)
       clear hl9 hf9 hk9)
    | fail)
  all_goals
    go_wp2_with fail
    go_ret
    exact ⟨rfl, H9.out.1, HK.out.trans H9.out.2⟩
/-- A record as it is told: its facts, its mark. -/
abbrev Pr := List Lib.S59 × Int
def Pr.b (p : Pr) : List Int := recB p.1 p.2
def Pr.ok (p : Pr) : Prop := rightR p.1 p.2 = true ∧ ∀ s ∈ p.1, -9223372036854775808 ≤ s.f2 ∧ s.f2 < 9223372036854775808
def Rc.pr (r : Rc) : Pr := (r.fs, r.m)
def Rc.cells (r : Rc) : List Value := [.slice r.R r.xs.length r.c, .int .i64 r.m]
/-- crc.All on a row of bytes of one's own. -/
theorem all_c {w : World} {base L t : Nat} {v : Value} {qq d0 : List Int} {fs : List (List Int)} (ho : w.ownsRow base 5 1 v L (nums .u8 (allF fs ++ qq))) (hL : L = (allF fs ++ qq).length) (hq : qq = (frameF d0).take t) (ht : t < d0.length + 8) (hd0 : d0.length ≤ 65535) (hfs : ∀ d ∈ fs, Byt d ∧ d.length ≤ 65535) (hl : L < 100000000) (hlen : fs.length ≤ 10000) :
    Calls Tryd.prog 27 #[v] w fun e w' => ∃ (u : Value) (z : Int) (xs : List FEnt), e = .returned (.tuple #[u, .int .i64 z]) ∧ w'.ownsRow w.heap.size 60 1 u xs.length (xs.map FEnt.sl) ∧ xs.map FEnt.k = fs ∧ (∀ x ∈ xs, FOk w.heap.size w' x) ∧ Below w.heap.size w w' := by
  subst hL
  obtain ⟨A, c, rfl, hr, hc, hz, hbl⟩ := own_form ho
  cases A with
  | none =>
    have h0 : (allF fs ++ qq).length = 0 := by
      rcases Nat.eq_zero_or_pos (allF fs ++ qq).length with h | h
      · exact h
      · obtain ⟨a, e⟩ := hr.some h
        cases e
    have hf : fs = [] := by
      cases fs with
      | nil => rfl
      | cons d ds =>
        rw [allF_cons, List.length_append, List.length_append, frameF_len] at h0
        omega
    rw [h0, hz rfl, hf]
    exact fall_nil.mono fun e w' ⟨u, xs, h1, h2, h3, h4, h5⟩ => ⟨u, 0, xs, h1, h2, h3, h4, h5⟩
  | some a =>
    have hty : ∃ cs, w.heap[a.block]? = some (.cells cs 5 (0, 0)) := own_typed ho _ (hbl a rfl)
    exact (fall_q hq ht hd0 hr hty hc hfs rfl hl hlen).mono fun e w' ⟨u, xs, h1, h2, h3, h4, h5⟩ => ⟨u, _, xs, h1, h2, h3, h4, h5⟩
/-- What Replay gives. -/
def RepR (ps : List Pr) (w : World) (e : Ending) (w' : World) : Prop :=
  ∃ (v : Value) (rs : List Rc), e = .returned (.tuple #[v, .int .i64 0]) ∧ w'.ownsRow w.heap.size 37 2 v rs.length (rs.flatMap Rc.cells) ∧ rs.map Rc.pr = ps ∧ (∀ r ∈ rs, RcOwn w.heap.size w' r) ∧ Below w.heap.size w w'
/-- What the loop over the frames holds. -/
structure RpI (w : World) (g n : Nat) (xs : List FEnt) (ps : List Pr) (j : Nat) (rs : List Rc) (v : Value) (W : World) : Prop where
  own : W.ownsRow w.heap.size 37 2 v rs.length (rs.flatMap Rc.cells)
  pr : rs.map Rc.pr = ps.take j
  ok : ∀ r ∈ rs, RcOwn w.heap.size W r
  fr : ∀ i (hi : i < xs.length), ∃ cs, W.heap[g]? = some (.cells cs 60 (0, 0)) ∧ cs[i]? = some xs[i].sl
  fo : ∀ x ∈ xs, FOk w.heap.size W x
  be : Below w.heap.size w W
theorem RpI.below {w W W1 : World} {g n j : Nat} {xs : List FEnt} {ps : List Pr} {rs : List Rc} {v : Value} (h : RpI w g n xs ps j rs v W) (hb : Below W.heap.size W W1) : RpI w g n xs ps j rs v W1 := by
  exact ⟨own_below h.own hb, h.pr, fun r hr => (h.ok r hr).below hb, fun i hi => by
    obtain ⟨cs, h1, h2⟩ := h.fr i hi
    exact ⟨cs, (hb.block _ (blk_lt h1)).trans h1, h2⟩, fun x hx => ⟨own_below (h.fo x hx).1 hb, (h.fo x hx).2⟩, h.be.trans (hb.mono h.be.size)⟩
/-- One record more. -/
theorem RpI.snoc {w W W1 : World} {g n j : Nat} {xs : List FEnt} {ps : List Pr} {rs : List Rc} {v v' : Value} {r : Rc} (h : RpI w g n xs ps j rs v W) (hr : RcOwn w.heap.size W r) (hp : ps[j]? = some r.pr) (hg : (W.alloc (.cells #[.slice r.R r.xs.length r.c, .int .i64 r.m] 37)).grownBy W1 v.ownBlock)
    (ho : W1.ownsRow w.heap.size 37 2 v' (rs.length + 1) (rs.flatMap Rc.cells ++ r.cells)) : RpI w g n xs ps (j + 1) (rs ++ [r]) v' W1 := by
  have far : ∀ (k : Nat) (cs : Array Value) (e : TypeId), W.heap[k]? = some (.cells cs e (0, 0)) → e ≠ 37 → W1.heap[k]? = W.heap[k]? := fun k cs e hk he =>
    (hg.block k (by rw [World.size_alloc]; have := blk_lt hk; omega) (fun e0 => by
      obtain ⟨c2, hc⟩ := own_typed h.own k e0.symm
      rw [hk] at hc
      simp only [Option.some.injEq, Obj.cells.injEq] at hc
      exact he hc.2.1)).trans (Below.heap_alloc _ _ _ (blk_lt hk))
  have mv : ∀ r, RcOwn w.heap.size W r → RcOwn w.heap.size W1 r := fun r hr => hr.move (fun k cs e hk he => far k cs e hk (by rcases he with rfl | rfl <;> decide))
  refine ⟨by rw [List.length_append, List.length_singleton, List.flatMap_append, List.flatMap_singleton]; exact ho, ?_, fun y hy => ?_, fun i hi => by
    obtain ⟨cs, h1, h2⟩ := h.fr i hi
    exact ⟨cs, (far _ _ _ h1 (by decide)).trans h1, h2⟩, fun x hx => ⟨own_move (h.fo x hx).1 (fun k hk => ?_), (h.fo x hx).2⟩, (h.be.alloc h.be.size _).grown hg (by rw [World.size_alloc]; have := h.be.size; omega) (fun k hk => (h.own.lt k hk).1)⟩
  · rw [List.map_append, h.pr, List.take_add_one, hp]
    rfl
  · rcases List.mem_append.1 hy with hy | hy
    · exact mv y (h.ok y hy)
    · rw [List.mem_singleton.1 hy]; exact mv r hr
  · obtain ⟨c2, hc⟩ := own_typed (h.fo x hx).1 k hk
    exact far k c2 _ hc (by decide)
/-- A row's slice and its block. -/
theorem row_block {W : World} {n₀ e size n : Nat} {v : Value} {xs : List Value} (h : W.ownsRow n₀ e size v n xs) : ∃ A c g, v = .slice A n c ∧ ∀ i (hi : i < xs.length), A = some ⟨g, 0, none⟩ ∧ ∃ cs, W.heap[g]? = some (.cells cs e (0, 0)) ∧ cs[i]? = some xs[i] := by
  have h0 := h
  rcases h.2 with ⟨rfl, hn⟩ | ⟨g, cap, cur, rfl, hb, hg, r⟩
  · obtain rfl : n = 0 := by simpa using hn
    have : xs = [] := List.eq_nil_of_length_eq_zero (by have := h.1; omega)
    subst this
    exact ⟨none, 0, 0, rfl, fun i hi => by simp at hi⟩
  · refine ⟨_, _, g, rfl, fun i hi => ⟨rfl, _, hg, ?_⟩⟩
    have h1 := h0.cells (g := g) rfl i xs[i] (List.getElem?_eq_getElem hi)
    have h2 : W.cell? ⟨g, i, none⟩ = some xs[i] := by
      rw [← h1]
      rcases Nat.eq_zero_or_pos i with rfl | hp
      · rfl
      · simp [Addr.add, Nat.pos_iff_ne_zero.1 hp]
    rw [← h2]
    exact (blk_cell hg i).symm
def Rc.obj (r : Rc) : Obj := .cells #[.slice r.R r.xs.length r.c, .int .i64 r.m] 37
theorem rc_new (W : World) (r : Rc) : ∀ j u, r.cells[j]? = some u → (W.alloc (.cells #[.slice r.R r.xs.length r.c, .int .i64 r.m] 37)).cell? ((⟨W.heap.size, 0, none⟩ : Addr).add j) = some u := fun j u hj => by
  rw [Addr.add_lit, Nat.zero_add]
  refine (blk_cell (al_new (W := W) (o := .cells #[.slice r.R r.xs.length r.c, .int .i64 r.m] 37) rfl) j).trans ?_
  show (r.cells.toArray)[j]? = _
  rw [List.getElem?_toArray]
  exact hj
theorem info_rec : (Tryd.prog.info? 37).map (fun i => (i.zero, i.size, i.bytes)) = some (some (.agg #[.slice none 0 0, .int .i64 0]), 2, 32) := by kernel_rfl
set_option maxRecDepth 100000 in
set_option maxHeartbeats 8000000 in
theorem replay_c {w : World} {F : Fs} {q n b t : Nat} {ps : List Pr} {qq d0 : List Int} (h : FsAt F q w) (hn : F.dm n = some b) (hd : (F.fd b).1 = allF (ps.map Pr.b) ++ qq) (hq : qq = (frameF d0).take t) (ht : t < d0.length + 8) (hd0 : d0.length ≤ 65535) (hps : ∀ p ∈ ps, p.ok) (hlen : ps.length ≤ 12) :
    Calls Tryd.prog 12 #[.pointer (some ⟨F.fb, 0, none⟩), .int .i64 n] w (RepR ps w) := by
  obtain ⟨n1, n7⟩ : 1 ≤ n ∧ n ≤ 7 := by
    obtain ⟨D, _, hD⟩ := h.dmp
    exact ⟨(hD.all n b hn).1, (hD.all n b hn).2.1⟩
  have HN := Aside0.mk (fun w : World => name_c (w := w) n1 n7)
  have t0 := seg_full n1 n7
  have HR := Aside0.mk (read_c h hn)
  obtain ⟨_, _, _, _, _, _, hmx, _⟩ := h.files b (.inl ⟨n, hn⟩)
  have hL : (F.fd b).1.length = (allF (ps.map Pr.b) ++ qq).length := by rw [hd]
  have hfs : ∀ d ∈ ps.map Pr.b, Byt d ∧ d.length ≤ 65535 := fun d hdm => by
    obtain ⟨p, hp, rfl⟩ := List.mem_map.1 hdm
    have := recB_len (hps p hp).1
    exact ⟨recB_byt _ _, by unfold Pr.b; omega⟩
  have HA : Aside0 (∀ (W : World) (v : Value) (base : Nat), W.ownsRow base 5 1 v (F.fd b).1.length (nums .u8 (F.fd b).1) → Calls Tryd.prog 27 #[v] W fun e w' => ∃ (u : Value) (z : Int) (xs : List FEnt), e = .returned (.tuple #[u, .int .i64 z]) ∧ w'.ownsRow W.heap.size 60 1 u xs.length (xs.map FEnt.sl) ∧ xs.map FEnt.k = ps.map Pr.b ∧ (∀ x ∈ xs, FOk W.heap.size w' x) ∧ Below W.heap.size W w') := ⟨fun W v base ho => by
    rw [hd] at ho
    exact all_c ho rfl hq ht hd0 hfs (by rw [← hL]; omega) (by rw [List.length_map]; omega)⟩
  have HPS := Aside0.mk (And.intro hps hlen)
  clear h hn hd hq ht hd0 hps hlen hmx hL hfs n1 n7
  go_enter Tryd.func12, Tryd.ntmps12
  go_wp2_with (first
    | (go_at_call 18; refine (HN.out _).mono ?_; rintro e w1 ⟨rfl, rfl⟩)
    | (go_at_call 26; refine HR.out.mono ?_; rintro e w2 ⟨v2, rfl, ho2, hb2⟩)
    | (go_at_call 27; refine (HA.out _ _ _ ho2).mono ?_; rintro e w3 ⟨v3, z3, xs, rfl, ho3, hxk, hfo, hb3⟩
       obtain ⟨R3, c3, g3, hv3, hc3⟩ := row_block ho3
       subst hv3)
    | fail)
  have hlx : xs.length = ps.length := by
    have := congrArg List.length hxk
    simpa using this
  have HXK := Aside0.mk hxk
  have hR0 : RpI w1 g3 0 xs ps 0 [] (.slice none 0 0) w3 := ⟨⟨rfl, .inl ⟨rfl, by first | rfl | simp⟩⟩, rfl, fun r hr => (by cases hr), fun i hi => by
    obtain ⟨_, cs, h1, h2⟩ := hc3 i (by rw [List.length_map]; exact hi)
    exact ⟨cs, h1, by rw [h2, List.getElem_map]⟩, fun x hx => ⟨own_low (hfo x hx).1 hb2.size, (hfo x hx).2⟩, hb2.trans (hb3.mono hb2.size)⟩
  have HC3 := Aside0.mk (fun (i : Nat) (hi : i < xs.length) => (hc3 i (by rw [List.length_map]; exact hi)).1)
  have HLX := Aside0.mk hlx
  clear hfo ho3 hc3 hb2 hb3 ho2 hxk hlx
  go_loopw [11, 36] (fun ov iv wr => ∃ (j : Nat) (rs : List Rc), iv = .int .i64 j ∧ j ≤ xs.length ∧ Aside0 (RpI w1 g3 0 xs ps j rs ov wr)) (fun _ i _ => xs.length - (intOf i).toNat)
  case atStart => exact ⟨0, [], rfl, Nat.zero_le _, ⟨hR0⟩⟩
  case round =>
    obtain ⟨j, rs, rfl, hj, HI⟩ := hrel
    have hn' : xs.length ≤ 12 := by rw [HLX.out]; exact HPS.out.2
    by_cases hlt : j < xs.length
    · have t1 : decide ((j : Int) < (xs.length : Int)) = true := decide_eq_true (by omega)
      have t2 : decide (j < xs.length) = true := decide_eq_true hlt
      obtain rfl := HC3.out j hlt
      obtain ⟨cs3, hg3, hcs3⟩ := HI.out.fr j hlt
      have hjp : j < ps.length := by rw [← HLX.out]; exact hlt
      have hk : xs[j].k = ps[j].b := by
        have h1 : (xs.map FEnt.k)[j]? = (ps.map Pr.b)[j]? := by rw [HXK.out]
        rw [List.getElem?_map, List.getElem?_map, List.getElem?_eq_getElem hlt, List.getElem?_eq_getElem hjp] at h1
        simpa using h1
      have hfo := HI.out.fo _ (List.getElem_mem hlt)
      have hpok := HPS.out.1 _ (List.getElem_mem hjp)
      have hcj : wr.cell? ⟨g3, j, none⟩ = some xs[j].sl := (blk_cell hg3 j).trans hcs3
      obtain ⟨p, hp⟩ : ∃ p, p = ps[j] := ⟨_, rfl⟩
      have HP := Aside0.mk ((List.getElem?_eq_getElem hjp).trans (congrArg some hp.symm))
      rw [← hp] at hk hpok
      generalize xs[j] = x at *
      obtain ⟨xe, xA, xc, xk⟩ := x
      unfold FEnt.sl at hcj
      simp only at hcj hk
      subst hk
      have hbl : 0 < (Pr.b p).length := by unfold Pr.b recB; split <;> simp
      have hrd := own_read hfo.1
      obtain ⟨xa, rfl⟩ := hrd.some hbl
      have hty := own_typed hfo.1 _ rfl
      have hRd := readrec_c (w := wr) (a := xa) (c := xc) (n := (Pr.b p).length) hpok.1 hpok.2 rfl hrd hty hfo.2
      unfold ReadR Rc.v at hRd
      have HRD := Aside0.mk hRd
      have hlr : rs.length = j := by
        have := congrArg List.length HI.out.pr
        simp at this
        omega
      have HLR := Aside0.mk hlr
      obtain ⟨i0, hi, hzz⟩ := Option.map_eq_some_iff.1 info_rec
      simp only [Prod.mk.injEq] at hzz
      obtain ⟨hz0, hz1, hz2⟩ := hzz
      generalize (Pr.b p).length = xl at *
      clear hfo hpok hrd hty hRd hg3 hcs3 hbl hjp hp
      go_wp2_with (first
        | (go_at_call 28
           refine HRD.out.mono ?_
           rintro e w5 ⟨r, rfl, hrf, hrm, hro, hb5⟩
           have hI5 := HI.out.below hb5
           have hbx := (Below.refl w5.heap.size w5).alloc (Nat.le_refl _) r.obj
           have hN := al_new (W := w5) (o := r.obj) (k := w5.heap.size) rfl
           have hI6 := hI5.below hbx
           unfold Rc.obj at hN hI6 hbx
           have y0 : (w5.alloc (.cells #[.slice r.R r.xs.length r.c, .int .i64 r.m] 37)).cell? ⟨w5.heap.size, 0, none⟩ = some (.slice r.R r.xs.length r.c) := (blk_cell hN 0).trans rfl
           have y1 : (w5.alloc (.cells #[.slice r.R r.xs.length r.c, .int .i64 r.m] 37)).cell? ⟨w5.heap.size, 1, none⟩ = some (.int .i64 r.m) := (blk_cell hN 1).trans rfl
           have hr6 : RcOwn w1.heap.size (w5.alloc (.cells #[.slice r.R r.xs.length r.c, .int .i64 r.m] 37)) r := (hro.low HI.out.be.size).below hbx
           have H6 := Aside0.mk (And.intro hI6 (And.intro hr6 (And.intro hrf hrm)))
           clear hI5 hI6 hbx hN hr6 hro hb5 hrf hrm)
        | (at_builtin
           refine wpList_append_own_at _ rfl _ _ 33 rfl w1.heap.size 37 i0 _ 2 32 Tryd.underlying33 hi hz0 hz1 hz2 rfl (by decide) _ _ _ rfl (H6.out.1.own.alloc _) ⟨(w5.alloc (.cells #[.slice r.R r.xs.length r.c, .int .i64 r.m] 37)).heap.size, 0, none⟩ 1 1 r.cells (by simp [World.size_alloc]; rfl) rfl (rc_new _ r) (fun u hu => by (simp only [Rc.cells, List.mem_cons, List.not_mem_nil, or_false] at hu; rcases hu with rfl | rfl <;> rfl)) (by simp only [maxLen]; omega) (by omega) (by have := H6.out.1.be.size; simp only [World.size_alloc] at *; omega) ?_
           intro v7 w7 hown7 hg7 hnil7 hat7)
        | fail)
      go_roundw
      case rel =>
        have hq : ps[j]? = some r.pr := by rw [HP.out, Rc.pr, H6.out.2.2.1, H6.out.2.2.2]
        exact ⟨j + 1, rs ++ [r], by go_num, by omega, ⟨H6.out.1.snoc H6.out.2.1 hq hg7 hown7⟩⟩
      case measure => simp [intOf]; omega
    · obtain rfl : j = xs.length := by omega
      have t1 : decide ((xs.length : Int) < (xs.length : Int)) = false := decide_eq_false (by omega)
      have t2 : decide (xs.length < xs.length) = false := decide_eq_false hlt
      go_wp2_with fail
      go_ret2
      exact ⟨_, rs, rfl, HI.out.own, by rw [HI.out.pr, HLX.out, List.take_length], HI.out.ok, HI.out.be⟩
end Go.Proofs.YtnmiipcoojijiaaDoor.Top
