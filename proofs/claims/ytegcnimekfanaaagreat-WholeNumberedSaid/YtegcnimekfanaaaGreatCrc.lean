/-
  Package crc: the sum of bytes, walked: step, Sum.Add, Sum.Value, Of (of one text), Bytes.
-/
import Derived.Test.YtegcnimekfanaaaGreatRows
import Derived.Test.YtegcnimekfanaaaGreatBase
namespace Go.Proofs.YtegcnimekfanaaaGreat
open Go.RowKit

namespace Crc
/-- One bit's round. -/
def round (m : Int) : Int := bits .xor .u32 (m / 2) (bits .and .u32 3988292384 (-bits .and .u32 m 1 % 4294967296))
def rounds : Nat → Int → Int
  | 0, m => m
  | k + 1, m => round (rounds k m)
theorem round_bd (m : Int) : 0 ≤ round m ∧ round m < 4294967296 := bits_u32 _ _ _
theorem rounds_bd (k : Nat) (m : Int) (h : 0 ≤ m ∧ m < 4294967296) : 0 ≤ rounds k m ∧ rounds k m < 4294967296 := by
  cases k with
  | zero => exact h
  | succ k => exact round_bd _
/-- A byte more. -/
def step (n c : Int) : Int := rounds 8 (bits .xor .u32 n c)
theorem step_bd (n c : Int) : 0 ≤ step n c ∧ step n c < 4294967296 := rounds_bd 8 _ (bits_u32 _ _ _)
/-- Bytes more, not turned. -/
def run (n : Int) (l : List UInt8) : Int := l.foldl (fun m c => step m (c.toNat : Int)) n
theorem run_bd (n : Int) (h : 0 ≤ n ∧ n < 4294967296) (l : List UInt8) : 0 ≤ run n l ∧ run n l < 4294967296 := by
  rcases List.eq_nil_or_concat l with rfl | ⟨l', c, rfl⟩
  · exact h
  · simp only [run, List.concat_eq_append, List.foldl_append, List.foldl_cons, List.foldl_nil]; exact step_bd _ _
theorem run_snoc (n : Int) (l : List UInt8) (c : UInt8) : run n (l ++ [c]) = step (run n l) c.toNat := by
  simp [run]
/-- All bits turned. -/
def inv (n : Int) : Int := bits .xor .u32 IntKind.u32.max n
theorem inv_bd (n : Int) : 0 ≤ inv n ∧ inv n < 4294967296 := bits_u32 _ _ _
/-- The sum of a text. -/
def of (l : List UInt8) : Int := inv (run (inv 0) l)
theorem of_bd (l : List UInt8) : 0 ≤ of l ∧ of l < 4294967296 := inv_bd _
/-- A sum's four bytes, the lowest first. -/
def bytes (n : Int) : List UInt8 := [n % 256, n / 256 % 256, n / 65536 % 256, n / 16777216].map fun x => UInt8.ofNat x.toNat
end Crc

set_option maxHeartbeats 400000 in
theorem crc_step (n c : Int) (w : World) (h2 : 0 ≤ c) (h3 : c < 256) :
    Calls Tryz.prog 183 #[.int .u32 n, .int .u8 c] w fun e w' => e = .returned (.int .u32 (Crc.step n c)) ∧ w = w' := by
  go_enter Tryz.func183, Tryz.ntmps183
  go_wp2
  go_loop [0, 5, 10] (fun x _l i => ∃ k : Nat, k ≤ 8 ∧ i = .int .i64 k ∧ x = .int .u32 (Crc.rounds k (bits .xor .u32 n c))) (fun _ _ i => 8 - (intOf i).toNat)
  case atStart => exact ⟨0, by omega, rfl, rfl⟩
  case round =>
    obtain ⟨k, hk, rfl, rfl⟩ := hrel
    have hb := Crc.rounds_bd k _ (bits_u32 .xor n c)
    have hb1 := hb.1
    have hb2 := hb.2
    clear hb
    by_cases hlt : k < 8
    · go_wp2
      go_round
      case rel => exact ⟨k + 1, by omega, by go_num, rfl⟩
      case measure => simp [intOf]; omega
    · go_wp2
      go_ret
      obtain rfl : k = 8 := by omega
      exact ⟨rfl, rfl⟩

theorem take_snoc (s : ByteArray) (k : Nat) (h : k < s.size) : s.data.toList.take (k + 1) = s.data.toList.take k ++ [s[k]] := by
  rw [List.take_succ_eq_append_getElem (by simpa using h)]; rfl

set_option maxHeartbeats 400000 in
/-- Add: of a sum that is one cell of one block. -/
theorem crc_add (b : Nat) (n : Int) (s : ByteArray) (w : World) (hs : s.size ≤ 4611686018427387904)
    (hc : w.cell? ⟨b, 0, none⟩ = some (.int .u32 n)) (hf : w.frozen? ⟨b, 0, none⟩ = false) :
    Calls Tryz.prog 146 #[.pointer (some ⟨b, 0, none⟩), .string s] w
      fun e w' => e = .returned (.tuple #[]) ∧ w.setCell ⟨b, 0, none⟩ (.int .u32 (Crc.inv (Crc.run (Crc.inv n) s.data.toList))) = w' := by
  go_enter Tryz.func146, Tryz.ntmps146
  go_wp2
  go_loop [4, 5, 13] (fun x _c i => ∃ k : Nat, k ≤ s.size ∧ i = .int .i64 k ∧ x = .int .u32 (Crc.run (Crc.inv n) (s.data.toList.take k))) (fun _ _ i => s.size - (intOf i).toNat)
  case atStart => exact ⟨0, Nat.zero_le _, rfl, rfl⟩
  case round =>
    obtain ⟨k, hk, rfl, rfl⟩ := hrel
    have hb := Crc.run_bd _ (Crc.inv_bd n) (s.data.toList.take k)
    by_cases hlt : k < s.size
    · have hsn := Crc.run_snoc (Crc.inv n) (s.data.toList.take k) s[k]
      rw [← take_snoc s k hlt] at hsn
      have HS := hid hsn
      clear hsn
      have hx : s[k].toNat < 256 := s[k].toNat_lt
      go_wp2_with (go_at_call 183; refine (crc_step _ _ _ (by omega) (by omega)).mono ?_; rintro e w' ⟨rfl, rfl⟩)
      go_round
      case rel => exact ⟨k + 1, by omega, by go_num, by rw [HS.out]⟩
      case measure => simp [intOf]; omega
    · go_wp2
      go_end0
      obtain rfl : k = s.size := by omega
      exact ⟨rfl, by rw [List.take_of_length_le (by simp)]; rfl⟩

theorem crc_value (b : Nat) (n : Int) (w : World) (hc : w.cell? ⟨b, 0, none⟩ = some (.int .u32 n)) :
    Calls Tryz.prog 147 #[.pointer (some ⟨b, 0, none⟩)] w fun e w' => e = .returned (.int .u32 n) ∧ w = w' := by
  go_enter Tryz.func147, Tryz.ntmps147
  go_wp2
  go_ret
  exact ⟨rfl, rfl⟩

/-- The sum so far, while Of runs over its one text. -/
def Crc.part (k : Nat) (l : List UInt8) : Int := if k = 0 then 0 else Crc.of l

set_option maxHeartbeats 400000 in
/-- Of: of one text. -/
theorem crc_of (b : Nat) (s : ByteArray) (w : World) (hs : s.size ≤ 4611686018427387904) (hc : w.cell? ⟨b, 0, none⟩ = some (.string s)) :
    Calls Tryz.prog 109 #[.slice (some ⟨b, 0, none⟩) 1 1] w
      fun e w' => e = .returned (.int .u32 (Crc.of s.data.toList)) ∧ Below w.heap.size w w' := by
  have hb0 := lt_of_cell hc
  go_enter Tryz.func109, Tryz.ntmps109
  go_wp2
  go_loopw [6, 10] (fun _t i wr => ∃ k : Nat, k ≤ 1 ∧ i = .int .i64 k ∧ Below w.heap.size w wr ∧ wr.heap[w.heap.size]? = some (.cells #[.int .u32 (Crc.part k s.data.toList)] 241 (0, 0))) (fun _ i _ => 1 - (intOf i).toNat)
  case atStart => exact ⟨0, Nat.zero_le _, rfl, (Below.refl _ _).alloc (Nat.le_refl _) _, block_alloc_new _ _⟩
  case round =>
    obtain ⟨k, hk, rfl, hbel, hblk⟩ := hrel
    by_cases hlt : k < 1
    · obtain rfl : k = 0 := by omega
      have hc' := (hbel.cell (p := ⟨b, 0, none⟩) hb0).trans hc
      have hn := cellOf (k := 0) hblk rfl
      have hf := freeOf (k := 0) hblk
      clear hk hlt hc
      go_wp2_with (go_at_call 146; refine (crc_add _ _ _ _ hs hn hf).mono ?_; rintro e w' ⟨rfl, rfl⟩)
      go_roundw
      case rel => exact ⟨1, by omega, by go_num, hbel.setCell (Nat.le_refl _) _, block_setCell_same _ hblk⟩
      case measure => simp [intOf]
    · obtain rfl : k = 1 := by omega
      have hn := cellOf (k := 0) hblk rfl
      go_wp2_with (go_at_call 147; refine (crc_value _ _ _ hn).mono ?_; rintro e w' ⟨rfl, rfl⟩)
      go_ret
      exact ⟨rfl, hbel⟩

set_option maxRecDepth 10000 in
theorem crc_bytes (n : Int) (w : World) (h : 0 ≤ n) (h1 : n < 4294967296) :
    Calls Tryz.prog 151 #[.int .u32 n] w fun e w' => e = .returned (.string ⟨(Crc.bytes n).toArray⟩) ∧ Below w.heap.size w w' := by
  have hcv := run_convert_bytes_arg (P := Tryz.prog) (w.alloc (.cells #[.int .u8 (n % 256), .int .u8 (n / 256 % 256), .int .u8 (n / 65536 % 256), .int .u8 (n / 16777216)] 5)) 80 5
    Tryz.underlying80 Tryz.underlying5 w.heap.size 0 4 4 [n % 256, n / 256 % 256, n / 65536 % 256, n / 16777216] rfl (by
      intro i hi
      refine cellOf (block_alloc_new _ _) ?_
      match i, hi with
      | 0, _ => rfl
      | 1, _ => rfl
      | 2, _ => rfl
      | 3, _ => rfl) 9 Tryz.underlying9
  go_enter Tryz.func151, Tryz.ntmps151
  go_wp2
  go_ret
  exact ⟨rfl, (Below.refl _ _).alloc (Nat.le_refl _) _⟩
end Go.Proofs.YtegcnimekfanaaaGreat
