/-
  Package stamp, walked: Write.
-/
import Derived.Test.YtegcnimekfanaaaGreatStampA
namespace Go.Proofs.YtegcnimekfanaaaGreat
open Go.RowKit

theorem DevAt.ext {w w' : World} {p : Nat} {F S : List Nat} {D : Dev} (h : DevAt w p F D) (he : Ext S w w') (hd : ∀ x ∈ F, x ∉ S) : DevAt w' p F D := by
  obtain ⟨vs, vc, hp, hs, hc, hsp, hcp, rfl⟩ := h
  exact ⟨vs, vc, he.block hp (hd p (by simp)), he.row hs fun g hg => hd g (by simp [hg]), he.row hc fun g hg => hd g (by simp [hg]), hsp, hcp, rfl⟩
theorem DevAt.lt {w : World} {p : Nat} {F : List Nat} {D : Dev} (h : DevAt w p F D) : ∀ x ∈ F, x < w.heap.size := by
  obtain ⟨vs, vc, hp, hs, hc, hsp, hcp, rfl⟩ := h
  intro x hx
  simp only [List.mem_cons, List.mem_append, Option.mem_toList] at hx
  rcases hx with rfl | hx | hx
  · exact lt_of_block hp
  · exact (hs.lt x hx).2
  · exact (hc.lt x hx).2
theorem Goes.pre {w wo w' : World} {F : List Nat} {R : World → List Nat → Prop} (h1 : Ext [] w wo) (h : Goes wo w' F R) : Goes w w' F R :=
  h.trans (h1.mono (by simp)) (fun _ hx => .inl hx)
theorem Goes.post {w wo w' : World} {F : List Nat} {R : World → List Nat → Prop} (h : Goes w wo F R) (h1 : Ext [] wo w') (hR : ∀ F', R wo F' → R w' F') : Goes w w' F R := by
  obtain ⟨F', hr, he, hf⟩ := h
  exact ⟨F', hR F' hr, he.nil_of h1, hf⟩

set_option maxHeartbeats 400000 in
theorem stamp_Write (w : World) (p : Nat) (F : List Nat) (D : Dev) (i : Nat) (s : Sec) (h : DevAt w p F D) (hi : i < D.sectors.length) (hn : D.sectors.length ≤ 65536) (hl : D.left ≤ 9223372036854775807)
    (hm : D.may = true) (hcl : D.cache.length ≤ 1000000) (hs : s.Ok) (hs1 : 1 ≤ s.stamp) :
    Calls Tryz.prog 80 #[.pointer (some ⟨p, 0, none⟩), .int .i64 i, s.val] w fun e w' => e = .returned (.int .i64 0) ∧ Goes w w' F (fun w F => DevAt w p F (D.write i ⟨s.text.toArray⟩)) := by
  have hT := sec_Text s
  have hC := sec_Check s
  have hlen := hs.text_len
  unfold Sec.val at hT hC ⊢
  go_enter Tryz.func80, Tryz.ntmps80
  go_wp2_with fail
  refine (hC _ hs hs1).mono ?_
  rintro e w1 ⟨rfl, hb1⟩
  have hE1 := ((Ext.refl [] w).alloc (.cells #[.int .i64 s.stamp, .int .u8 s.mark, .string s.data] 155)).nil_of (Ext.of_below hb1)
  have hx1 := (Ext.of_below hb1).block (block_alloc_new w (.cells #[.int .i64 s.stamp, .int .u8 s.mark, .string s.data] 155)) (by simp)
  have c0 := cellOf (k := 0) hx1 rfl
  have c1 := cellOf (k := 1) hx1 rfl
  have c2 := cellOf (k := 2) hx1 rfl
  go_wp2_with fail
  refine (hT _ hs).mono ?_
  rintro e w2 ⟨rfl, hb2⟩
  have hE2 := hE1.nil_of (Ext.of_below hb2)
  have hD2 := h.ext hE2 (by simp)
  clear c0 c1 c2
  go_wp2_with fail
  refine (dev_Write_ok w2 p F D i _ hD2 hi hn (by simp [ByteArray.size, hlen]) hl hm hcl).mono ?_
  rintro e w3 ⟨rfl, hg⟩
  go_wp2
  go_ret
  exact ⟨rfl, hg.pre hE2⟩
end Go.Proofs.YtegcnimekfanaaaGreat
