/-
  Package codec: Out, walked: S of texts, Text.
-/
import Derived.Test.YtegcnimekfanaaaGreatCodecA
namespace Go.Proofs.YtegcnimekfanaaaGreat
open Go.RowKit

def Codec.encS (s : ByteArray) : List UInt8 := Codec.encU s.size ++ s.data.toList
def Codec.encSs (l : List ByteArray) : List UInt8 := l.flatMap Codec.encS
theorem Codec.encSs_take (l : List ByteArray) (k : Nat) (h : k < l.length) : Codec.encSs (l.take (k + 1)) = Codec.encSs (l.take k) ++ Codec.encS l[k] := by
  rw [List.take_succ_eq_append_getElem h]; simp only [Codec.encSs, List.flatMap_append, List.flatMap_cons, List.flatMap_nil, List.append_nil]
theorem Codec.encSs_len (l : List ByteArray) (h : ∀ s ∈ l, s.size ≤ 1000) : (Codec.encSs l).length ≤ 1009 * l.length := by
  induction l with
  | nil => simp [Codec.encSs]
  | cons x l ih =>
    have h1 := ih (fun s hs => h s (List.mem_cons_of_mem _ hs))
    have h2 := h x (by simp)
    have h3 := Codec.encU_le x.size
    have h4 : x.data.size = x.size := rfl
    simp only [Codec.encSs, Codec.encS, List.flatMap_cons, List.length_append, List.length_cons, Array.length_toList] at *; omega

set_option maxHeartbeats 400000 in
theorem out_S (p b : Nat) (r : Option Nat) (bs : List UInt8) (l : List ByteArray) (c : Nat) (w : World) (hl : ∀ s ∈ l, s.size ≤ 1000) (hlen : l.length ≤ 500) (hbs : bs.length ≤ 100000)
    (ho : OutAt w p r bs) (hc : ∀ k (h : k < l.length), w.cell? ⟨b, k, none⟩ = some (.string l[k])) (hb : b ∉ p :: r.toList) :
    Calls Tryz.prog 149 #[.pointer (some ⟨p, 0, none⟩), .slice (some ⟨b, 0, none⟩) l.length c] w
      fun e w' => e = .returned (.pointer (some ⟨p, 0, none⟩)) ∧ OutGoes w w' p r (bs ++ Codec.encSs l) := by
  go_enter Tryz.func149, Tryz.ntmps149
  go_wp2
  go_loopw [6, 9] (fun _n i wr => ∃ k : Nat, k ≤ l.length ∧ i = .int .i64 k ∧ OutGoes w wr p r (bs ++ Codec.encSs (l.take k))) (fun _ i _ => l.length - (intOf i).toNat)
  case atStart => exact ⟨0, Nat.zero_le _, rfl, r, by simpa [Codec.encSs] using ho, Ext.refl _ _, .inl rfl⟩
  case round =>
    obtain ⟨k, hk, rfl, hout⟩ := hrel
    by_cases hlt : k < l.length
    · obtain ⟨r1, ho1, hext, hr1⟩ := hout
      have hc1 := hext.cell (hc k hlt) hb
      obtain ⟨x, hx⟩ : ∃ x, l[k] = x := ⟨_, rfl⟩
      have hx0 : x.size ≤ 1000 := by rw [← hx]; exact hl _ (List.getElem_mem _)
      have htk := Codec.encSs_take l k hlt
      have hlen2 := Codec.encSs_len (l.take k) (fun s hs => hl s (List.mem_of_mem_take hs))
      have hlen3 : (l.take k).length ≤ 500 := by simp; omega
      rw [hx] at hc1 htk
      have HT := hid htk
      clear hx htk
      have hcB : bs.length + (Codec.encSs (l.take k)).length ≤ 900000 := by omega
      have HcB := hid hcB
      clear hlen2 hlen3 hcB
      have hU := fun o (ho : (wr.alloc o).cell? ⟨wr.heap.size, 0, none⟩ = some (.int .i64 (x.size : Nat))) => out_N p wr.heap.size r1 _ [x.size] 1 (wr.alloc o) (by intro y hy; simp at hy; omega) (by simp) (by simpa using HcB.out) (ho1.alloc o)
        (fun j hj => by simp at hj; subst hj; exact ho) ho1.fresh
      have HU := hid hU
      clear hU
      go_wp2_with fail
      refine (HU.out _ (cellOf (block_alloc_new _ _) rfl)).mono ?_
      rintro e w' ⟨rfl, hg⟩
      have hG := hg.trans (hext.alloc _) hr1
      clear hg
      obtain ⟨r2, ⟨v2, hp2, hown2, rfl, hrp2⟩, hext2, hr2⟩ := hG
      have hcp2 := cellOf (k := 0) hp2 rfl
      have hvp : p ∉ v2.ownBlock.toList := by simpa using fun h => hrp2 h
      obtain ⟨L, hL⟩ : ∃ L, (bs ++ Codec.encSs (l.take k) ++ Codec.encN [x.size]).length = L := ⟨_, rfl⟩
      rw [hL] at hown2
      have hL2 : L ≤ 910000 ∧ 0 < L := by
        have := HcB.out; have h9 := Codec.encU_le x.size; have h1 := Codec.encU_length x.size
        rw [← hL]; simp [Codec.encN]; omega
      have hl0 := hL2.1
      have hl1 := hL2.2
      have HL := hid hL
      clear hL hL2
      go_wp2_with (at_builtin; refine wl_append_some (v := v2) _ rfl (.tmp 22) (.tmp 23) 80 9 rfl e80 rfl hown2 rfl (Src.ofString _ Tryz.underlying9 x) (by omega) ?_ ?_ ?_)
      case refine_1 => simp only [maxLen]; omega
      case refine_2 => omega
      intro g cap w1 hownA hextA hgA
      have hpA : w1.heap[p]? = some (.cells #[v2] 244 (0, 0)) := hextA.block hp2 hvp
      have hG2 := out_append (bs := bs ++ Codec.encSs (l.take (k + 1))) hext2 hr2 hp2 hrp2 (Ext.refl [] _) hextA (by
        have e : bc (bs ++ Codec.encSs (l.take (k + 1))) = bc (bs ++ (Codec.encSs (l.take k) ++ Codec.encN [x.size])) ++ byteCells x := by
          rw [HT.out, bc_bytes, ← bc_append]; simp [Codec.encS, Codec.encN, List.append_assoc]
        rw [e]; exact hownA) (by rw [HT.out, ← HL.out]; simp [Codec.encS, Codec.encN]; have : x.data.size = x.size := rfl; omega) hgA
      have hcA := cellOf (k := 0) hpA rfl
      have hfA := freeOf (k := 0) hpA
      clear hcp2 hownA hextA hown2
      go_wp2
      go_roundw
      case rel => exact ⟨k + 1, by omega, by go_num, hG2⟩
      case measure => simp [intOf]; omega
    · obtain rfl : k = l.length := by omega
      go_wp2
      go_ret
      rw [List.take_length] at hout
      exact ⟨rfl, hout⟩

theorem out_Text (p : Nat) (r : Option Nat) (bs : List UInt8) (w : World) (ho : OutAt w p r bs) :
    Calls Tryz.prog 150 #[.pointer (some ⟨p, 0, none⟩)] w fun e w' => e = .returned (.string ⟨bs.toArray⟩) ∧ w = w' := by
  obtain ⟨v, hp, hown, rfl, hrp⟩ := ho
  have hcp := cellOf (k := 0) hp rfl
  have hcv : (convert 80 9 v).run Tryz.prog w = .ok (.string ⟨bs.toArray⟩) w := by
    rcases hown.2 with ⟨rfl, h0⟩ | ⟨g, cap, cur, rfl, _⟩
    · have : bs = [] := List.eq_nil_of_length_eq_zero h0
      subst this
      exact run_convert_bytes_nil w 80 5 Tryz.underlying80 Tryz.underlying5 0 0 9 Tryz.underlying9
    · refine run_convert_bytes_back w 80 9 5 ⟨g, 0, none⟩ cap bs Tryz.underlying80 Tryz.underlying5 Tryz.underlying9 ?_
      intro j hj
      exact hown.cells (g := g) rfl j _ (by simp [bc, List.getElem?_eq_getElem hj])
  clear hown hp
  go_enter Tryz.func150, Tryz.ntmps150
  go_wp2
  go_ret
  exact ⟨rfl, rfl⟩
end Go.Proofs.YtegcnimekfanaaaGreat
