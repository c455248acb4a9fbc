/-
  Contracts of crc.More and crc.Sum: that they tell a number which hangs on the bytes alone; conditions: those that each theorem states.
-/
import Derived.Test.YtkpkhggjhpikdaaBytes
import Derived.Deep.LoopGhost
import Derived.Laws.Closers25b
namespace Go.Proofs.Ytkpkhggjhpikdaa.Top
set_option linter.unusedSimpArgs false
set_option linter.unusedVariables false
open Go.RowKit Go.Proofs.YtkpkhggjhpikdaaW.PrintWords Go.Proofs.YtkpkhggjhpikdaaW.PrintLast Go.Proofs.YtkpkhggjhpikdaaW.PrintMore Go.Proofs.Ytkpkhggjhpikdaa.Plain
/-- One digit, eight digits, one byte, a row. -/
def bitF (c : Int) : Int := if (bits .and .u32 c 1 == 1) = true then bits .xor .u32 (c / 2) 2197175160 else c / 2
def bitN : Nat → Int → Int
  | 0, c => c
  | n + 1, c => bitF (bitN n c)
def byteF (c x : Int) : Int := bitN 8 (bits .xor .u32 c x)
def moreF (s : Int) (l : List Int) : Int := bits .xor .u32 IntKind.u32.max (l.foldl byteF (bits .xor .u32 IntKind.u32.max s))
theorem xor_rng (a b : Int) : 0 ≤ bits .xor .u32 a b ∧ bits .xor .u32 a b < 4294967296 := ⟨bits_lo_u32 _ a b, by have := bits_hi_u32 .xor a b; omega⟩
theorem bitF_rng {c : Int} (h : 0 ≤ c ∧ c < 4294967296) : 0 ≤ bitF c ∧ bitF c < 4294967296 := by
  unfold bitF
  split
  · exact xor_rng _ _
  · omega
theorem moreF_rng (s : Int) (l : List Int) : 0 ≤ moreF s l ∧ moreF s l < 4294967296 := xor_rng _ _
set_option maxHeartbeats 1000000 in
set_option maxRecDepth 100000 in
theorem crc_more_c {w : World} {A : Option Addr} {c : Nat} {l : List Int} {s : Int} (hs : 0 ≤ s ∧ s < 4294967296) (h : RdB w A l) (hl : l.length ≤ 1000000) (hb : Byt l) :
    Calls Try.prog 40 #[.int .u32 s, .slice A l.length c] w fun e w' => e = .returned (.int .u32 (moreF s l)) ∧ w = w' := by
  have HR := Aside0.mk h
  have HB := Aside0.mk hb
  have h00 := xor_rng IntKind.u32.max s
  clear h hb
  go_enter Try.func40, Try.ntmps40
  go_wp2
  go_loopw [5, 13] (fun cv i wr => ∃ (j : Nat) (c : Int), j ≤ l.length ∧ i = .int .i64 j ∧ cv = .int .u32 c ∧ 0 ≤ c ∧ c < 4294967296 ∧ Aside0 (c = (l.take j).foldl byteF (bits .xor .u32 IntKind.u32.max s)) ∧ w = wr) (fun _ i _ => l.length - (intOf i).toNat)
  case atStart => exact ⟨0, _, by omega, rfl, rfl, h00.1, h00.2, ⟨rfl⟩, rfl⟩
  case round =>
    obtain ⟨j, c, hj, rfl, rfl, h0, h1, HC, rfl⟩ := hrel
    by_cases hlt : j < l.length
    · obtain ⟨ad, rfl, hc⟩ := Kd.at_int HR.out (j : Int) (by omega) (by omega)
      rw [Int.toNat_natCast] at hc
      have hxe : rd l (j : Int) = l[j] := by
        unfold rd
        rw [Int.toNat_natCast, List.getD_eq_getElem?_getD, List.getElem?_eq_getElem hlt]
        rfl
      have hx := HB.out _ (List.getElem_mem hlt)
      have htk : (l.take (j + 1)).foldl byteF (bits .xor .u32 IntKind.u32.max s) = byteF ((l.take j).foldl byteF (bits .xor .u32 IntKind.u32.max s)) l[j] := by
        rw [List.take_succ_eq_append_getElem hlt, List.foldl_append]
        rfl
      rw [← HC.out] at htk
      rw [hxe] at hc
      generalize l[j] = x at hc hx htk
      have HT := Aside0.mk htk
      have hcx := xor_rng c x
      clear htk hxe
      go_wp2
      go_loopw [5, 21] (fun cv i wr => ∃ (m : Nat) (c2 : Int), m ≤ 8 ∧ i = .int .i64 m ∧ cv = .int .u32 c2 ∧ 0 ≤ c2 ∧ c2 < 4294967296 ∧ Aside0 (c2 = bitN m (bits .xor .u32 c x)) ∧ w = wr) (fun _ i _ => 8 - (intOf i).toNat)
      case atStart => exact ⟨0, _, by omega, rfl, rfl, hcx.1, hcx.2, ⟨rfl⟩, rfl⟩
      case round =>
        obtain ⟨m, c2, hm, rfl, rfl, h2, h3, HC2, rfl⟩ := hrel
        by_cases hlt2 : m < 8
        · have t1 : decide ((m : Int) < 8) = true := decide_eq_true (by omega)
          have hbr := bitF_rng ⟨h2, h3⟩
          have hbe : bitN (m + 1) (bits .xor .u32 c x) = bitF c2 := by rw [HC2.out]; rfl
          have HE := Aside0.mk hbe
          clear hbe
          cases hbit : (bits .and .u32 c2 1 == 1)
          · have he : bitF c2 = c2 / 2 := by unfold bitF; rw [hbit]; rfl
            rw [he] at hbr
            have HE2 := Aside0.mk he
            clear he
            go_wp2
            go_roundw
            case rel => exact ⟨m + 1, c2 / 2, by omega, by go_num, rfl, hbr.1, hbr.2, ⟨by rw [HE.out, HE2.out]⟩, by trivial⟩
            case measure => simp [intOf]; omega
          · have he : bitF c2 = bits .xor .u32 (c2 / 2) 2197175160 := by unfold bitF; rw [hbit]; rfl
            rw [he] at hbr
            have HE2 := Aside0.mk he
            clear he
            go_wp2
            go_roundw
            case rel => exact ⟨m + 1, _, by omega, by go_num, rfl, hbr.1, hbr.2, ⟨by rw [HE.out, HE2.out]⟩, by trivial⟩
            case measure => simp [intOf]; omega
        · have t1 : decide ((m : Int) < 8) = false := decide_eq_false (by omega)
          obtain rfl : m = 8 := by omega
          go_wp2
          go_roundw
          case rel => exact ⟨j + 1, c2, by omega, by go_num, rfl, h2, h3, ⟨by rw [HT.out, HC2.out]; rfl⟩, by trivial⟩
          case measure => simp [intOf]; omega
    · obtain rfl : j = l.length := by omega
      rw [List.take_length] at HC
      go_wp2
      go_ret
      refine ⟨?_, rfl⟩
      unfold moreF
      rw [← HC.out]
      rfl
theorem crc_sum_c {w : World} {A : Option Addr} {c : Nat} {l : List Int} (h : RdB w A l) (hl : l.length ≤ 1000000) (hb : Byt l) :
    Calls Try.prog 39 #[.slice A l.length c] w fun e w' => e = .returned (.int .u32 (moreF 0 l)) ∧ w = w' := by
  go_enter Try.func39, Try.ntmps39
  go_wp2_with (refine (crc_more_c (s := 0) (by omega) h hl hb).mono ?_; rintro e w1 ⟨rfl, rfl⟩)
  go_ret
  exact ⟨rfl, rfl⟩
end Go.Proofs.Ytkpkhggjhpikdaa.Top
