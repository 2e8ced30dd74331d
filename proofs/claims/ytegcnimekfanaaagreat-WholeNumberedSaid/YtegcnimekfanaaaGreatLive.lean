/-
  live: fixed facts of crc, stamp and cursor.
-/
import Derived.Deep.DeepCutAuto
import Derived.Test.YtegcnimekfanaaaGreatStampB
import Derived.Test.YtegcnimekfanaaaGreatSearch
namespace Go.Proofs.YtegcnimekfanaaaGreat
open Go.RowKit

theorem crc_check : Crc.of [49, 50, 51, 52, 53, 54, 55, 56, 57] = 3421780262 := by decide +kernel

set_option maxRecDepth 8000 in
theorem above_a (w : World) : Calls Tryz.prog 111 #[.string { data := #[97] }] w fun e w' => e = .returned (.string { data := #[98] }) ∧ Ext [] w w' := by
  go_enter Tryz.func111, Tryz.ntmps111
  go_wp2_with fail
  go_loopg [3] 1 (fun _k s3 wr => s3 = .int .i64 0 ∧ wr = w)
  case atStart => exact ⟨rfl, rfl⟩
  case round =>
    obtain ⟨rfl, rfl⟩ := hrel
    go_upto_region 5 with (fail)
    have hv : IntKind.u8.wrap ((({ data := #[97] } : ByteArray)[0].toNat : Int) + 1) = 98 := by decide
    have hcv : (convert 80 9 (.slice (some ⟨wr.heap.size, 0, none⟩) 1 1)).run Tryz.prog ((wr.alloc (.cells #[.int .u8 98] 5)).drew) = .ok (.string { data := #[98] }) ((wr.alloc (.cells #[.int .u8 98] 5)).drew) := by
      have := Go.run_convert_bytes_back (P := Tryz.prog) ((wr.alloc (.cells #[.int .u8 98] 5)).drew) 80 9 5 ⟨wr.heap.size, 0, none⟩ 1 [98] Tryz.underlying80 Tryz.underlying5 Tryz.underlying9 (by
        intro j hj
        have : j = 0 := by simpa using hj
        subst this
        exact cellOf (block_alloc_new wr (.cells #[.int .u8 98] 5)) rfl)
      exact this
    have hap : ByteArray.empty ++ ({ data := #[98] } : ByteArray) = { data := #[98] } := by decide
    go_region_law (fail)
    all_goals
      go_wp2
      go_ret
      exact ⟨rfl, ((Ext.refl [] wr).alloc _).drew⟩

set_option maxRecDepth 8000 in
theorem live_true (w : World) : Calls Tryz.prog 64 #[] w fun e w' => e = .returned (.bool true) ∧ Ext [] w w' := by
  go_enter Tryz.func64, Tryz.ntmps64
  go_wp2_with fail
  have hb1 := block_alloc_new2 w (.cells #[.int .i64 1, .int .u8 0, .string { data := #[] }] 155) (.cells #[.string { data := #[49, 50, 51, 52, 53, 54, 55, 56, 57] }] 9)
  have hb0 := block_alloc_old (.cells #[.string { data := #[49, 50, 51, 52, 53, 54, 55, 56, 57] }] 9) (block_alloc_new w (.cells #[.int .i64 1, .int .u8 0, .string { data := #[] }] 155))
  have hE0 := ((Ext.refl [] w).alloc (.cells #[.int .i64 1, .int .u8 0, .string { data := #[] }] 155)).alloc (.cells #[.string { data := #[49, 50, 51, 52, 53, 54, 55, 56, 57] }] 9)
  refine (crc_of (w.heap.size + 1) { data := #[49, 50, 51, 52, 53, 54, 55, 56, 57] } _ (by decide) (cellOf (k := 0) hb1 rfl)).mono ?_
  rintro e w1 ⟨rfl, hE1⟩
  have hb01 : w1.heap[w.heap.size]? = some (.cells #[.int .i64 1, .int .u8 0, .string { data := #[] }] 155 (0, 0)) := (Ext.of_below hE1).block hb0 (by simp)
  have hE1 := hE0.nil_of (Ext.of_below hE1)
  have e1 : Crc.of ({ data := #[49, 50, 51, 52, 53, 54, 55, 56, 57] } : ByteArray).data.toList = 3421780262 := crc_check
  rw [e1]
  have h0 := cellOf (k := 0) hb01 rfl
  have h1 := cellOf (k := 1) hb01 rfl
  have h2 := cellOf (k := 2) hb01 rfl
  clear hb1 hb0 hb01 hE0 e1
  generalize w.heap.size = N at *
  have hok : Sec.Ok ⟨1, 0, { data := #[] }⟩ := ⟨by decide, by decide, by decide⟩
  have hlen := hok.text_len
  have cT := sec_Text ⟨1, 0, { data := #[] }⟩ w1 hok
  change Calls Tryz.prog 110 #[.agg #[.int .i64 1, .int .u8 0, .string { data := #[] }]] w1 _ at cT
  have hsz : ((⟨(Sec.text ⟨1, 0, { data := #[] }⟩).toArray⟩ : ByteArray).size : Int) = 64 := by
    show (((Sec.text ⟨1, 0, { data := #[] }⟩).toArray.size : Nat) : Int) = 64
    rw [List.size_toArray, hlen]; rfl
  generalize (⟨(Sec.text ⟨1, 0, { data := #[] }⟩).toArray⟩ : ByteArray) = tx at cT hsz
  clear hlen hok
  go_wp2_with fail
  refine cT.mono ?_
  rintro e w2 ⟨rfl, hE2⟩
  have hE2 := hE1.nil_of (Ext.of_below hE2)
  go_wp2_with fail
  refine (above_a w2).mono ?_
  rintro e w3 ⟨rfl, hE3⟩
  have hE3 := hE2.nil_of hE3
  clear cT
  go_wp2
  go_ret
  exact ⟨rfl, hE3⟩
end Go.Proofs.YtegcnimekfanaaaGreat
