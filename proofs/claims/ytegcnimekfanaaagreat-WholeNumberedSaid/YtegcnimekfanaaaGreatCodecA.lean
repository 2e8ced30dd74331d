/-
  Package codec: Out, walked: U and N of one number, N of two, S of one text, Text.
-/
import Derived.Test.YtegcnimekfanaaaGreatRows
import Derived.Test.YtegcnimekfanaaaGreatBase
import Derived.Deep.RegionHeld3
import Derived.Deep.RegionLaw
namespace Go.Proofs.YtegcnimekfanaaaGreat
open Go.RowKit

theorem e80 : ETy Tryz.prog 80 5 1 1 := .of (z := .int .u8 0) Tryz.underlying80 (by kernel_rfl) rfl (by decide)

namespace Codec
def ulenF : Nat → Nat → Nat
  | 0, _ => 0
  | f + 1, n => if n = 0 then 0 else ulenF f (n / 256) + 1
/-- How many bytes a number has. -/
def ulen (n : Nat) : Nat := ulenF 8 n
/-- The first j of k bytes, the highest first. -/
def ubytes (n k j : Nat) : List UInt8 := (List.range j).map fun i => UInt8.ofNat (n / 256 ^ (k - 1 - i))
def encU (n : Nat) : List UInt8 := UInt8.ofNat (ulen n) :: ubytes n (ulen n) (ulen n)
theorem ulenF_le : ∀ (f n : Nat), ulenF f n ≤ f
  | 0, _ => Nat.le_refl _
  | f + 1, n => by unfold ulenF; split; omega; have := ulenF_le f (n / 256); omega
theorem ulen_le (n : Nat) : ulen n ≤ 8 := ulenF_le 8 n
theorem ubytes_succ (n k j : Nat) : ubytes n k (j + 1) = ubytes n k j ++ [UInt8.ofNat (n / 256 ^ (k - 1 - j))] := by
  simp [ubytes, List.range_succ]
theorem ubytes_length (n k j : Nat) : (ubytes n k j).length = j := by simp [ubytes]
theorem encU_length (n : Nat) : (encU n).length = ulen n + 1 := by simp [encU, ubytes_length]
theorem encU_le (n : Nat) : (encU n).length ≤ 9 := by have := ulen_le n; rw [encU_length]; omega
/-- One byte of the count. -/
theorem ulenF_pos (f n : Nat) (h : 0 < n) : ulenF (f + 1) n = ulenF f (n / 256) + 1 := by rw [ulenF, if_neg (by omega)]
theorem ulenF_zero (f : Nat) : ulenF f 0 = 0 := by cases f <;> rfl
end Codec

/-- A byte, as a cell. -/
def bc (l : List UInt8) : List Value := l.map fun b => .int .u8 b.toNat
theorem bc_append (l m : List UInt8) : bc (l ++ m) = bc l ++ bc m := by simp [bc]
theorem bc_bytes (s : ByteArray) : byteCells s = bc s.data.toList := rfl

/-- An Out: its block, its row's block, its bytes. -/
def OutAt (w : World) (p : Nat) (r : Option Nat) (bs : List UInt8) : Prop :=
  ∃ v, w.heap[p]? = some (.cells #[v] 244 (0, 0)) ∧ w.ownsRow 0 5 1 v bs.length (bc bs) ∧ v.ownBlock = r ∧ r ≠ some p

/-- What a call does to an Out. -/
def OutGoes (w w' : World) (p : Nat) (r : Option Nat) (bs : List UInt8) : Prop :=
  ∃ r', OutAt w' p r' bs ∧ Ext (p :: r.toList) w w' ∧ (r' = r ∨ ∃ g, r' = some g ∧ w.heap.size ≤ g)

theorem bc_snoc (bs : List UInt8) (c : UInt8) (k : Int) (h : (c.toNat : Int) = k) : bc (bs ++ [c]) = bc bs ++ [.int .u8 k] := by simp [bc, h]
theorem byte_nat (j : Nat) (h : j < 256) : (((UInt8.ofNat j).toNat : Nat) : Int) = (j : Int) := by
  simp [UInt8.toNat_ofNat']; omega

theorem shr_byte (n q : Nat) : ((UInt8.ofNat (n / 256 ^ q)).toNat : Int) = IntKind.u8.wrap ((n : Int) / 2 ^ (8 * (q : Int)).toNat) := by
  have h1 : (8 * (q : Int)).toNat = 8 * q := by omega
  have h2 : (2 : Nat) ^ (8 * q) = 256 ^ q := by rw [Nat.pow_mul]
  have h3 : ((n : Int) / 2 ^ (8 * (q : Int)).toNat) = ((n / 256 ^ q : Nat) : Int) := by rw [h1, ← h2]; simp
  rw [h3]
  simp [IntKind.wrap, IntKind.bits, IntKind.signed, UInt8.toNat_ofNat']

/-- Bytes were appended, and the new row is stored. -/
theorem out_append {w wo wa w1 : World} {p : Nat} {r : Option Nat} {bs : List UInt8} {v : Value} (hext : Ext (p :: r.toList) w wo) (hr : v.ownBlock = r ∨ ∃ g, v.ownBlock = some g ∧ w.heap.size ≤ g)
    (hp : wo.heap[p]? = some (.cells #[v] 244 (0, 0))) (hne : v.ownBlock ≠ some p) (hwa : Ext [] wo wa) (hextA : Ext v.ownBlock.toList wa w1) {g cap m : Nat}
    (hown : w1.ownsRow 0 5 1 (.slice (some ⟨g, 0, none⟩) m cap) m (bc bs)) (hm : m = bs.length) (hg : v.ownBlock = some g ∨ g = wa.heap.size) :
    OutGoes w (w1.setCell ⟨p, 0, none⟩ (.slice (some ⟨g, 0, none⟩) m cap)) p r bs := by
  have hpl := lt_of_block hp
  have hp1 : w1.heap[p]? = some (.cells #[v] 244 (0, 0)) := hextA.block (hwa.block hp (by simp)) (by simpa using fun h => hne h)
  have hgp : g ≠ p := by
    rintro rfl
    rcases hg with h | h
    · exact hne h
    · have := hwa.size; omega
  subst hm
  refine ⟨some g, ⟨_, block_setCell_same _ hp1, ?_, rfl, by simpa using hgp⟩, ?_, ?_⟩
  · exact ownsRow_of_block hown fun g' hg' => by
      obtain rfl : g = g' := by simpa [Value.ownBlock] using hg'
      exact Below.heap_setCell _ _ _ _ hgp
  · refine Ext.setCell ?_ (.inl (by simp)) _
    refine (hext.nil_of hwa).trans hextA ?_
    intro x hx hlt
    rcases hr with h | ⟨g', h, h'⟩
    · rw [h] at hx; exact List.mem_cons_of_mem _ hx
    · rw [h] at hx; simp at hx; omega
  · rcases hg with h | h
    · rcases hr with h' | ⟨g', h', h''⟩
      · exact .inl (h.symm.trans h')
      · rw [h] at h'; exact .inr ⟨g, rfl, by simp at h'; omega⟩
    · exact .inr ⟨g, rfl, by have := hext.size; have := hwa.size; omega⟩

set_option maxHeartbeats 400000 in
set_option maxRecDepth 20000 in
theorem out_U (p b : Nat) (r : Option Nat) (bs : List UInt8) (n : Nat) (c : Nat) (w : World) (hn : (n : Int) < 18446744073709551616) (hbs : bs.length ≤ 1000000)
    (ho : OutAt w p r bs) (hc : w.cell? ⟨b, 0, none⟩ = some (.int .u64 n)) (hb : b ∉ p :: r.toList) :
    Calls Tryz.prog 184 #[.pointer (some ⟨p, 0, none⟩), .slice (some ⟨b, 0, none⟩) 1 c] w
      fun e w' => e = .returned (.pointer (some ⟨p, 0, none⟩)) ∧ OutGoes w w' p r (bs ++ Codec.encU n) := by
  have hb0 := lt_of_cell hc
  go_enter Tryz.func184, Tryz.ntmps184
  go_wp2
  go_loopw [6, 7, 8, 9, 12] (fun _n _k _x _i i wr => ∃ k : Nat, k ≤ 1 ∧ i = .int .i64 k ∧ OutGoes w wr p r (if k = 0 then bs else bs ++ Codec.encU n)) (fun _ _ _ _ i _ => 1 - (intOf i).toNat)
  case atStart => exact ⟨0, Nat.zero_le _, rfl, r, ho, Ext.refl _ _, .inl rfl⟩
  case round =>
    obtain ⟨k, hk, rfl, hout⟩ := hrel
    by_cases hlt : k < 1
    · obtain rfl : k = 0 := by omega
      obtain ⟨r1, ho1, hext, hr1⟩ := hout
      have hc1 := hext.cell hc hb
      obtain ⟨wo, rfl⟩ : ∃ wo : World, wo = wr := ⟨_, rfl⟩
      go_wp2
      go_loop [7, 8] (fun q x => ∃ j : Nat, j ≤ 8 ∧ q = .int .i64 j ∧ x = .int .u64 (n / 256 ^ j : Nat) ∧ Hid (Codec.ulenF (8 - j) (n / 256 ^ j) + j = Codec.ulen n)) (fun q _ => 8 - (intOf q).toNat)
      case atStart => exact ⟨0, by omega, rfl, by simp, by simp [Hid, Codec.ulen]⟩
      case round =>
        obtain ⟨j, hj, rfl, rfl, HJ⟩ := hrel
        generalize hx : n / 256 ^ j = x at HJ
        have hx8 : x = 0 ∨ j < 8 := by
          rcases Nat.lt_or_ge j 8 with h | h
          · exact .inr h
          · obtain rfl : j = 8 := by omega
            left; rw [← hx]; exact Nat.div_eq_of_lt (by omega)
        have hxn : x / 256 = n / 256 ^ (j + 1) := by rw [← hx, Nat.div_div_eq_div_mul, Nat.pow_succ]
        have HX := hid hxn
        have hxs : (x : Int) < 18446744073709551616 := by have : x ≤ n := by rw [← hx]; exact Nat.div_le_self _ _
                                                          omega
        clear hx hxn
        by_cases h0 : 0 < x
        · have hj8 : j < 8 := by omega
          go_wp2
          go_round
          case rel => exact ⟨j + 1, by omega, by go_num, by rw [← HX.out]; rfl, by
            have h1 := HJ.out
            obtain ⟨f, hf⟩ : ∃ f, 8 - j = f + 1 := ⟨7 - j, by omega⟩
            rw [hf, Codec.ulenF_pos _ _ h0] at h1
            show Codec.ulenF (8 - (j + 1)) (n / 256 ^ (j + 1)) + (j + 1) = _
            rw [← HX.out, show 8 - (j + 1) = f by omega]; omega⟩
          case measure => simp [intOf]; omega

        · obtain rfl : x = 0 := by omega
          have hju : Codec.ulen n = j := by have := HJ.out; rw [Codec.ulenF_zero] at this; omega
          have HU := hid hju
          clear hju HJ HX hxs hx8 h0 hn
          simp only [if_true] at ho1
          obtain ⟨v, hp1, hown1, rfl, hrp⟩ := ho1
          have hcp := cellOf (k := 0) hp1 rfl
          go_wp2_with (at_builtin; refine wl_append_some _ rfl (.tmp 27) (.tmp 30) 80 80 rfl e80 rfl (hown1.alloc _) rfl (Src.one Tryz.underlying80 (block_alloc_new _ _) rfl) (by omega) ?_ ?_ ?_)
          case refine_1 => simp only [maxLen]; omega
          case refine_2 => omega
          intro g cap w1 hownA hextA hgA
          have hpA : w1.heap[p]? = some (.cells #[v] 244 (0, 0)) := hextA.block (block_alloc_old _ hp1) (by simpa using fun h => hrp h)
          have hcA := cellOf (k := 0) hpA rfl
          have hfA := freeOf (k := 0) hpA
          have hbyte : UInt8.ofNat j = UInt8.ofNat (Codec.ulen n) := by rw [HU.out]
          have hG := out_append (bs := bs ++ [UInt8.ofNat j]) hext hr1 hp1 hrp ((Ext.refl [] wo).alloc _) hextA (by
            rw [bc_snoc _ _ _ (byte_nat j (by omega))]; exact hownA) (by simp) (by simpa using hgA)
          clear hcp
          go_wp2
          generalize hw2 : w1.setCell ⟨p, 0, none⟩ (.slice (some ⟨g, 0, none⟩) (bs.length + 1) cap) = w2 at hG
          clear hw2 hfA hcA hpA hownA hextA hgA
          go_loopw [9] (fun q wr => ∃ i : Nat, i ≤ j ∧ q = .int .i64 ((j : Int) - 1 - i) ∧ OutGoes w wr p r (bs ++ UInt8.ofNat j :: Codec.ubytes n j i)) (fun q _ => (intOf q + 1).toNat)
          case atStart => exact ⟨0, by omega, by go_num, by simpa [Codec.ubytes] using hG⟩
          case round =>
            obtain ⟨i, hi, rfl, r2, ⟨v2, hp2, hown2, rfl, hrp2⟩, hext2, hr2⟩ := hrel
            have hcp2 := cellOf (k := 0) hp2 rfl
            by_cases hij : i < j
            · obtain ⟨q, hq⟩ : ∃ q : Nat, (j : Int) - 1 - i = q := ⟨j - 1 - i, by omega⟩
              rw [hq]
              have hq7 : q < 8 := by omega
              have h8 : IntKind.i64.wrap (8 * (q : Int)) = 8 * (q : Int) := IntWalk.i64_in _ (by omega)
              have h80 : (0 : Int) ≤ 8 * (q : Int) := by omega
              have hfp2 := freeOf (k := 0) hp2
              have hpl := lt_of_block hp2
              have hvp : p ∉ v2.ownBlock.toList := by simpa using fun h => hrp2 h
              have hfz : ∀ o, (wr.alloc o).frozen? ⟨p, 0, none⟩ = false := fun o => freeOf (block_alloc_old o hp2)
              have hcz : ∀ o, (wr.alloc o).cell? ⟨p, 0, none⟩ = some v2 := fun o => cellOf (block_alloc_old o hp2) rfl
              obtain ⟨L, hL⟩ : ∃ L, (bs ++ UInt8.ofNat j :: Codec.ubytes n j i).length = L := ⟨_, rfl⟩
              rw [hL] at hown2
              have hL2 : L = bs.length + i + 1 := by rw [← hL]; simp [Codec.ubytes_length]; omega
              have hmx : L + 1 ≤ maxLen := by simp [maxLen]; omega
              have hby : (L + 1) * 1 ≤ 140737488355328 := by omega
              have hqq : j - 1 - i = q := by omega
              have HL := hid hL2
              clear hL hL2
              go_wp2_with fail
              go_region_law ((refine step_append_some (v := v2) _ (by rfl) (.tmp 44) (.tmp 50) 80 80 (by rfl) e80 (by rfl) (by exact hown2.alloc _) (by rfl) (by exact Src.one Tryz.underlying80 (block_alloc_new _ _) (by rfl)) (by omega) hmx hby ?_; intro g2 cap2 w3 hownB hextB hgB; have hcB : w3.cell? ⟨p, 0, none⟩ = some v2 := hextB.cell (by exact hcz _) hvp; have hfB : w3.frozen? ⟨p, 0, none⟩ = false := hextB.frozen (by simp; omega) hvp (by exact hfz _)))
              all_goals
                have hG2 := out_append (bs := bs ++ UInt8.ofNat j :: Codec.ubytes n j (i + 1)) hext2 hr2 hp2 hrp2 ((Ext.refl [] wr).alloc _).drew (by exact hextB) (by
                  rw [Codec.ubytes_succ, ← List.cons_append, ← List.append_assoc, hqq, bc_snoc _ _ _ (shr_byte n q)]
                  exact hownB) (by rw [HL.out]; simp [Codec.ubytes_length]; omega) (by simpa using hgB)
                clear hcB hfB hownB
                go_wp2
                go_roundw
                case rel => exact ⟨i + 1, by omega, by go_num, hG2⟩
                case measure => simp [intOf]
            · obtain rfl : i = j := by omega
              rw [show (i : Int) - 1 - (i : Int) = -1 by omega]
              have hF : OutGoes w wr p r (bs ++ Codec.encU n) := by
                refine ⟨_, ⟨v2, hp2, ?_, rfl, hrp2⟩, hext2, hr2⟩
                rw [Codec.encU, HU.out]; exact hown2
              clear hown2 hcp2
              go_wp2
              go_roundw
              case rel => exact ⟨1, by omega, by go_num, hF⟩
              case measure => simp [intOf]
    · obtain rfl : k = 1 := by omega
      go_wp2
      go_ret
      exact ⟨rfl, hout⟩

theorem OutGoes.trans {w wo w' : World} {p : Nat} {r r1 : Option Nat} {bs' : List UInt8} (h : OutGoes wo w' p r1 bs') (h1 : Ext (p :: r.toList) w wo) (h2 : r1 = r ∨ ∃ g, r1 = some g ∧ w.heap.size ≤ g) : OutGoes w w' p r bs' := by
  obtain ⟨r2, ho, he, hr⟩ := h
  refine ⟨r2, ho, h1.trans he ?_, ?_⟩
  · intro x hx hlt
    rcases List.mem_cons.1 hx with rfl | hx
    · simp
    · rcases h2 with rfl | ⟨g, rfl, hg⟩
      · exact List.mem_cons_of_mem _ hx
      · simp at hx; omega
  · rcases hr with rfl | ⟨g, rfl, hg⟩
    · exact h2
    · exact .inr ⟨g, rfl, by have := h1.size; omega⟩

theorem OutAt.alloc {w : World} {p : Nat} {r : Option Nat} {bs : List UInt8} (h : OutAt w p r bs) (o : Obj) : OutAt (w.alloc o) p r bs := by
  obtain ⟨v, h1, h2, h3, h4⟩ := h
  exact ⟨v, block_alloc_old _ h1, h2.alloc o, h3, h4⟩
theorem OutAt.fresh {w : World} {p : Nat} {r : Option Nat} {bs : List UInt8} (h : OutAt w p r bs) : w.heap.size ∉ p :: r.toList := by
  obtain ⟨v, h1, h2, rfl, h4⟩ := h
  have h5 := lt_of_block h1
  intro hm
  rcases List.mem_cons.1 hm with hm | hm
  · omega
  · have := (h2.lt w.heap.size (by simpa using hm)).2; omega

/-- The numbers of a call of N, so far. -/
def Codec.encN (l : List Nat) : List UInt8 := l.flatMap Codec.encU

theorem Codec.encN_take (l : List Nat) (k : Nat) (h : k < l.length) : Codec.encN (l.take (k + 1)) = Codec.encN (l.take k) ++ Codec.encU l[k] := by
  rw [List.take_succ_eq_append_getElem h]; simp only [Codec.encN, List.flatMap_append, List.flatMap_cons, List.flatMap_nil, List.append_nil]
theorem Codec.encN_len (l : List Nat) : (Codec.encN l).length ≤ 9 * l.length := by
  induction l with
  | nil => simp [Codec.encN]
  | cons x l ih => simp only [Codec.encN, List.flatMap_cons, List.length_append, List.length_cons] at *; have := Codec.encU_le x; omega

set_option maxHeartbeats 400000 in
theorem out_N (p b : Nat) (r : Option Nat) (bs : List UInt8) (l : List Nat) (c : Nat) (w : World) (hl : ∀ x ∈ l, x < 4611686018427387904) (hlen : l.length ≤ 1000) (hbs : bs.length ≤ 900000)
    (ho : OutAt w p r bs) (hc : ∀ k (h : k < l.length), w.cell? ⟨b, k, none⟩ = some (.int .i64 (l[k] : Int))) (hb : b ∉ p :: r.toList) :
    Calls Tryz.prog 148 #[.pointer (some ⟨p, 0, none⟩), .slice (some ⟨b, 0, none⟩) l.length c] w
      fun e w' => e = .returned (.pointer (some ⟨p, 0, none⟩)) ∧ OutGoes w w' p r (bs ++ Codec.encN l) := by
  go_enter Tryz.func148, Tryz.ntmps148
  go_wp2
  go_loopw [6, 9] (fun _n i wr => ∃ k : Nat, k ≤ l.length ∧ i = .int .i64 k ∧ OutGoes w wr p r (bs ++ Codec.encN (l.take k))) (fun _ i _ => l.length - (intOf i).toNat)
  case atStart => exact ⟨0, Nat.zero_le _, rfl, r, by simpa [Codec.encN] using ho, Ext.refl _ _, .inl rfl⟩
  case round =>
    obtain ⟨k, hk, rfl, hout⟩ := hrel
    by_cases hlt : k < l.length
    · obtain ⟨r1, ho1, hext, hr1⟩ := hout
      have hc1 := hext.cell (hc k hlt) hb
      obtain ⟨x, hx⟩ : ∃ x, l[k] = x := ⟨_, rfl⟩
      have hx0 : x < 4611686018427387904 := by rw [← hx]; exact hl _ (List.getElem_mem _)
      have htk := Codec.encN_take l k hlt
      have hlen2 := Codec.encN_len (l.take k)
      have hlen3 : (l.take k).length ≤ 1000 := by simp; omega
      rw [hx] at hc1 htk
      have HT := hid htk
      clear hx htk
      have hcB : bs.length + (Codec.encN (l.take k)).length ≤ 1000000 := by omega
      clear hlen2 hlen3
      have hU := fun o (ho : (wr.alloc o).cell? ⟨wr.heap.size, 0, none⟩ = some (.int .u64 x)) => out_U p wr.heap.size r1 _ x 1 (wr.alloc o) (by omega) (by simpa using hcB) (ho1.alloc o) ho ho1.fresh
      have HU := hid hU
      clear hU
      go_wp2_with (go_at_call 184; refine (HU.out _ (cellOf (block_alloc_new _ _) rfl)).mono ?_; rintro e w' ⟨rfl, hg⟩)
      have hG := hg.trans (hext.alloc _) hr1
      rw [List.append_assoc, ← HT.out] at hG
      clear hg
      go_wp2
      go_roundw
      case rel => exact ⟨k + 1, by omega, by go_num, hG⟩
      case measure => simp [intOf]; omega
    · obtain rfl : k = l.length := by omega
      go_wp2
      go_ret
      rw [List.take_length] at hout
      exact ⟨rfl, hout⟩
end Go.Proofs.YtegcnimekfanaaaGreat
