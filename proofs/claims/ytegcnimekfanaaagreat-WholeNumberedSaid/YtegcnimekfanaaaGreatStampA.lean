/-
  Package stamp, walked: Sector.Check, Sector.Text.
-/
import Derived.Test.YtegcnimekfanaaaGreatCodecB
import Derived.Test.YtegcnimekfanaaaGreatCrc
import Derived.Test.YtegcnimekfanaaaGreatDeviceD
namespace Go.Proofs.YtegcnimekfanaaaGreat
open Go.RowKit

/-- A sector: its stamp, its mark, its data. -/
structure Sec where
  stamp : Nat
  mark : Nat
  data : ByteArray
namespace Sec
def body (s : Sec) : List UInt8 := Codec.encN [s.stamp, s.mark] ++ Codec.encSs [s.data]
def full (s : Sec) : List UInt8 := s.body ++ List.replicate (60 - s.body.length) 0
def text (s : Sec) : List UInt8 := Crc.bytes (Crc.of s.full) ++ s.full
def val (s : Sec) : Value := .agg #[.int .i64 s.stamp, .int .u8 s.mark, .string s.data]
structure Ok (s : Sec) : Prop where
  st : s.stamp ≤ 1099511627776
  mrk : s.mark < 256
  dt : s.data.size ≤ 44
theorem Ok.body_le {s : Sec} (h : s.Ok) : s.body.length ≤ 60 := by
  have h1 : Codec.ulen s.stamp ≤ 6 := by
    have : s.stamp / 256 / 256 / 256 / 256 / 256 / 256 = 0 := by have := h.st; omega
    have e : ∀ n, n / 256 / 256 / 256 / 256 / 256 / 256 = 0 → Codec.ulen n ≤ 6 := by
      intro n hn
      unfold Codec.ulen
      simp only [Codec.ulenF]
      repeat' (first | split | omega)
    exact e _ this
  have h2 := Codec.encU_length s.stamp
  have h3 : Codec.ulen s.mark ≤ 1 := by
    have := h.mrk
    unfold Codec.ulen
    simp only [Codec.ulenF]
    repeat' (first | split | omega)
  have h4 := Codec.encU_length s.mark
  have h5 : Codec.ulen s.data.size ≤ 1 := by
    have := h.dt
    unfold Codec.ulen
    simp only [Codec.ulenF]
    repeat' (first | split | omega)
  have h6 := Codec.encU_length s.data.size
  have h7 : s.data.data.size = s.data.size := rfl
  have h8 := h.dt
  simp [body, Codec.encN, Codec.encSs, Codec.encS]
  omega
theorem Ok.full_len {s : Sec} (h : s.Ok) : s.full.length = 60 := by
  have := h.body_le
  simp [full]; omega
theorem Ok.text_len {s : Sec} (h : s.Ok) : s.text.length = 64 := by
  simp [text, h.full_len, Crc.bytes]
end Sec

theorem sec_Check (s : Sec) (w : World) (h : s.Ok) (h1 : 1 ≤ s.stamp) :
    Calls Tryz.prog 120 #[s.val] w fun e w' => e = .returned (.int .i64 0) ∧ Below w.heap.size w w' := by
  obtain ⟨st, mk, dt⟩ := s
  have h2 := h.st
  have h3 := h.dt
  simp only at h1 h2 h3
  have hz1 : decide ((st : Int) < 1) = false := by simp; omega
  have hz2 : decide ((1099511627776 : Int) < st) = false := by simp; omega
  have hz3 : decide ((44 : Int) < dt.size) = false := by simp; omega
  unfold Sec.val
  go_enter Tryz.func120, Tryz.ntmps120
  go_wp2
  go_ret
  exact ⟨rfl, (Below.refl _ _).alloc (Nat.le_refl _) _⟩

theorem OutAt.block {w : World} {p : Nat} {r : Option Nat} {bs : List UInt8} (h : OutAt w p r bs) {b : Nat} {vs : Array Value} {T : TypeId} {fr : Nat × Nat} (hb : w.heap[b]? = some (.cells vs T fr)) (h1 : T ≠ 244) (h2 : T ≠ 5) :
    b ∉ p :: r.toList := by
  obtain ⟨v, hp, hown, rfl, -⟩ := h
  intro hm
  rcases List.mem_cons.1 hm with rfl | hm
  · rw [hp] at hb; simp at hb; exact h1 hb.2.1.symm
  · rcases hown.2 with ⟨rfl, _⟩ | ⟨g, cap, cur, rfl, _, hg, _⟩
    · simp [Value.ownBlock] at hm
    · have hm : b = g := by simpa [Value.ownBlock] using hm
      subst hm
      rw [hg] at hb; simp at hb; exact h2 hb.2.1.symm

theorem text_N {W : World} {p b : Nat} {st mk : Nat} {T : TypeId} {fr : Nat × Nat} (ho : OutAt W p none []) (hb : W.heap[b]? = some (.cells #[.int .i64 st, .int .i64 mk] T fr)) (h1 : T ≠ 244) (h2 : T ≠ 5)
    (hs : st < 4611686018427387904) (hm : mk < 4611686018427387904) :
    Calls Tryz.prog 148 #[.pointer (some ⟨p, 0, none⟩), .slice (some ⟨b, 0, none⟩) 2 2] W
      fun e w' => e = .returned (.pointer (some ⟨p, 0, none⟩)) ∧ ∃ r, OutAt w' p r (Codec.encN [st, mk]) ∧ Ext [p] W w' ∧ ∀ g ∈ r.toList, W.heap.size ≤ g := by
  refine (out_N p b none [] [st, mk] 2 W (by simp [hs, hm]) (by simp) (by simp) ho (fun k hk => ?_) (ho.block hb h1 h2)).mono ?_
  · match k, hk with
    | 0, _ => exact cellOf hb rfl
    | 1, _ => exact cellOf (k := 1) hb rfl
  · rintro e w' ⟨rfl, r, h, he, hr⟩
    refine ⟨rfl, r, by simpa using h, by simpa using he, ?_⟩
    rcases hr with rfl | ⟨g, rfl, hg⟩
    · simp
    · simpa using hg

theorem text_S {W : World} {p b : Nat} {r : Option Nat} {bs : List UInt8} {dt : ByteArray} {T : TypeId} {fr : Nat × Nat} (ho : OutAt W p r bs) (hb : W.heap[b]? = some (.cells #[.string dt] T fr)) (h1 : T ≠ 244) (h2 : T ≠ 5)
    (hs : dt.size ≤ 1000) (hm : bs.length ≤ 1000) :
    Calls Tryz.prog 149 #[.pointer (some ⟨p, 0, none⟩), .slice (some ⟨b, 0, none⟩) 1 1] W
      fun e w' => e = .returned (.pointer (some ⟨p, 0, none⟩)) ∧ ∃ r', OutAt w' p r' (bs ++ Codec.encSs [dt]) ∧ Ext (p :: r.toList) W w' := by
  refine (out_S p b r bs [dt] 1 W (by simp [hs]) (by simp) (by omega) ho (fun k hk => ?_) (ho.block hb h1 h2)).mono ?_
  · match k, hk with
    | 0, _ => exact cellOf hb rfl
  · rintro e w' ⟨rfl, r', h, he, -⟩
    exact ⟨rfl, r', h, he⟩

set_option maxHeartbeats 1000000 in
set_option maxRecDepth 100000 in
theorem sec_Text (s : Sec) (w : World) (h : s.Ok) :
    Calls Tryz.prog 110 #[s.val] w fun e w' => e = .returned (.string ⟨s.text.toArray⟩) ∧ Below w.heap.size w w' := by
  have hb := h.body_le
  obtain ⟨st, mk, dt⟩ := s
  have h2 := h.st
  have h3 := h.dt
  have h4 := h.mrk
  simp only at h2 h3 h4
  unfold Sec.val
  go_enter Tryz.func110, Tryz.ntmps110
  go_wp2_with fail
  have ho : OutAt ((w.alloc (.cells #[.int .i64 st, .int .u8 mk, .string dt] 155)).alloc (.cells #[.slice none 0 0] 244)) (w.heap.size + 1) none [] := by
    refine ⟨.slice none 0 0, ?_, World.ownsRow_nil _ _ _ _, rfl, by simp⟩
    have := block_alloc_new (w.alloc (.cells #[.int .i64 st, .int .u8 mk, .string dt] 155)) (.cells #[.slice none 0 0] 244)
    simpa using this
  have hbx := block_alloc_old (.cells #[.slice none 0 0] 244) (block_alloc_new w (.cells #[.int .i64 st, .int .u8 mk, .string dt] 155))
  have hB : Below w.heap.size w ((w.alloc (.cells #[.int .i64 st, .int .u8 mk, .string dt] 155)).alloc (.cells #[.slice none 0 0] 244)) := ((Below.refl _ _).alloc (Nat.le_refl _) _).alloc (by simp) _
  generalize hW : (w.alloc (.cells #[.int .i64 st, .int .u8 mk, .string dt] 155)).alloc (.cells #[.slice none 0 0] 244) = W at *
  generalize hN : w.heap.size = N at *
  clear hW
  have c0 := cellOf (k := 0) hbx rfl
  have c1 := cellOf (k := 1) hbx rfl
  have c2 := cellOf (k := 2) hbx rfl
  have hNl := lt_of_block hbx
  have hNr : N ≠ N + 1 := by omega
  have hwm : IntKind.i64.wrap (mk : Int) = mk := IntWalk.i64_in _ (by omega)
  have hs1 : st < 4611686018427387904 := by omega
  have hs2 : mk < 4611686018427387904 := by omega
  have hen : (Codec.encN [st, mk]).length ≤ 1000 := by have := Codec.encN_len [st, mk]; simp at this; omega
  have hd1 : dt.size ≤ 1000 := by omega
  have F1 : ∀ o, OutAt (W.alloc o).drew (N + 1) none [] := fun o => ho.alloc o
  have F2 : ∀ o o', OutAt ((W.alloc o).alloc o').drew (N + 1) none [] := fun o o' => (ho.alloc o).alloc o'
  have G1 : ∀ o, (W.alloc o).drew.heap[W.heap.size]? = some o := fun o => block_alloc_new W o
  have G2 : ∀ o o', ((W.alloc o).alloc o').drew.heap[W.heap.size]? = some o := fun o o' => block_alloc_old o' (block_alloc_new W o)
  have G3 : ∀ o o', ((W.alloc o).alloc o').drew.heap[W.heap.size + 1]? = some o' := fun o o' => by
    have h := block_alloc_new (W.alloc o) o'
    rw [World.size_alloc] at h
    exact h
  have hWs : N + 1 < W.heap.size := by obtain ⟨_, h, _⟩ := ho; exact lt_of_block h
  have HB := hid (And.intro (fun o => (show (W.alloc o).drew.heap[N]? = some (.cells #[.int .i64 st, .int .u8 mk, .string dt] 155 (0, 0)) from block_alloc_old o hbx))
    (fun o o' => (show ((W.alloc o).alloc o').drew.heap[N]? = some (.cells #[.int .i64 st, .int .u8 mk, .string dt] 155 (0, 0)) from block_alloc_old o' (block_alloc_old o hbx))))
  have HF := hid (And.intro F1 (And.intro F2 (And.intro G1 (And.intro G2 G3))))
  clear F1 F2 G1 G2 G3
  go_region_held3 (fun w' => w'.cell? ⟨N, 0, none⟩ = some (.int .i64 st) ∧ w'.cell? ⟨N, 1, none⟩ = some (.int .u8 mk) ∧ w'.cell? ⟨N, 2, none⟩ = some (.string dt)) (first | go_keep | exact hK1 | exact hK2)
    (first
      | (go_at_call 148; refine (text_N (T := 3) (fr := (0, 0)) (by first | exact HF.out.1 _ | exact HF.out.2.1 _ _) (by first | exact HF.out.2.2.1 _ | exact HF.out.2.2.2.1 _ _ | exact HF.out.2.2.2.2 _ _) (by decide) (by decide) hs1 hs2).mono ?_; rintro e w1 ⟨rfl, r1, hO1, hE1, hr1⟩; have hx1 : w1.heap[N]? = some (.cells #[.int .i64 st, .int .u8 mk, .string dt] 155 (0, 0)) := hE1.block (by first | exact HB.out.1 _ | exact HB.out.2 _ _) (by simp); have hK1 := And.intro (cellOf (k := 0) hx1 rfl) (And.intro (cellOf (k := 1) hx1 rfl) (cellOf (k := 2) hx1 rfl)))
      | (go_at_call 149; refine (text_S (T := 9) (fr := (0, 0)) (by first | exact hO1.alloc _ | exact hO1) (by first | exact block_alloc_new _ _ | exact hE1.block (HF.out.2.2.2.2 _ _) (by simp; omega) | exact hE1.block (HF.out.2.2.2.1 _ _) (by simp; omega)) (by decide) (by decide) hd1 hen).mono ?_; rintro e w2 ⟨rfl, r2, hO2, hE2⟩; have hx2 : w2.heap[N]? = some (.cells #[.int .i64 st, .int .u8 mk, .string dt] 155 (0, 0)) := hE2.block (by first | exact block_alloc_old _ hx1 | exact hx1) (hO1.block hx1 (by decide) (by decide)); have hK2 := And.intro (cellOf (k := 0) hx2 rfl) (And.intro (cellOf (k := 1) hx2 rfl) (cellOf (k := 2) hx2 rfl))))
  all_goals
    have hB1 : Below N w w1 := by
      first
        | exact (((hB.alloc (by omega) _).alloc (by simp; omega) _).drew).trans (hE1.toBelow (by simp) (by simp; omega))
        | exact ((hB.alloc (by omega) _).drew).trans (hE1.toBelow (by simp) (by simp; omega))
    have hw1s : N ≤ w1.heap.size := by have := lt_of_block hx1; omega
    have hr1' : ∀ g ∈ (N + 1) :: r1.toList, N ≤ g := by
      intro g hg
      rcases List.mem_cons.1 hg with rfl | hg
      · omega
      · have := hr1 g hg; simp at this; omega
    have hB2 : Below N w w2 := by
      first
        | exact (hB1.alloc hw1s _).trans (hE2.toBelow hr1' (by simp; omega))
        | exact hB1.trans (hE2.toBelow hr1' hw1s)
    clear hE1 hE2 hx1 hx2 hO1
    have hT := out_Text _ _ _ _ hO2
    obtain ⟨bd, hbd⟩ : ∃ bd : ByteArray, (⟨(Codec.encN [st, mk] ++ Codec.encSs [dt]).toArray⟩ : ByteArray) = bd := ⟨_, rfl⟩
    rw [hbd] at hT
    have hbs : bd.size = (Codec.encN [st, mk] ++ Codec.encSs [dt]).length := by rw [← hbd]; rfl
    obtain ⟨k, hk⟩ : ∃ k : Nat, (k : Int) = 60 - bd.size := ⟨60 - bd.size, by rw [hbs]; simp only [Sec.body] at hb; omega⟩
    have hmk := fun w => run_make_zeros (P := Tryz.prog) Tryz.underlying80 (by kernel_rfl) k (by omega) w
    have hcv := fun w => run_conv_zeros (P := Tryz.prog) Tryz.underlying80 Tryz.underlying5 Tryz.underlying9 k _ k (block_alloc_new w (.cells (zeroRow k) 5))
    have hk6 : k ≤ 60 := by omega
    have hb6 : bd.size ≤ 60 := by omega
    have hkk := hid hk
    rw [hk] at hmk
    have hk60 : (bd.size : Int) ≤ 60 := by omega
    have HBD := hid (And.intro hbd hbs)
    clear hbd hbs hk
    go_wp2_with fail
    refine hT.mono ?_
    rintro e w3 ⟨rfl, rfl⟩
    clear hT hO2
    obtain ⟨X, hX⟩ : ∃ X : ByteArray, bd ++ ⟨Array.replicate k 0⟩ = X := ⟨_, rfl⟩
    have hXl : X.data.toList = Sec.full ⟨st, mk, dt⟩ := by
      have hk' := hkk.out
      have h1 := HBD.out.2
      rw [← hX, ByteArray.data_append, Array.toList_append, ← HBD.out.1]
      simp only [Sec.full, Sec.body]
      congr 1
      simp only [Array.toList_replicate]
      congr 1
      omega
    have hXs : X.size = 60 := by
      have := congrArg List.length hXl
      rw [h.full_len] at this
      simpa using this
    have HX := hid (And.intro hXl hXs)
    have HXe := hid hX
    clear hXl hXs hX
    go_wp2_with fail
    rw [HXe.out]
    refine (crc_of _ X _ (by rw [HX.out.2]; omega) (cellOf (block_alloc_new2 w2 _ _) rfl)).mono ?_
    rintro e w4 ⟨rfl, hb4⟩
    go_wp2_with fail
    have hBy := crc_bytes _ w4 (Crc.of_bd X.data.toList).1 (Crc.of_bd X.data.toList).2
    obtain ⟨cb, hcb⟩ : ∃ cb : ByteArray, (⟨(Crc.bytes (Crc.of X.data.toList)).toArray⟩ : ByteArray) = cb := ⟨_, rfl⟩
    rw [hcb] at hBy
    have hcs : cb.size ≤ 4 := by rw [← hcb]; simp [Crc.bytes, ByteArray.size]
    have hxs : X.size ≤ 60 := by rw [HX.out.2]; exact Nat.le_refl _
    have HCB := hid hcb
    clear hcb
    refine hBy.mono ?_
    rintro e w5 ⟨rfl, hb5⟩
    clear hBy
    go_wp2_with fail
    go_ret
    refine ⟨?_, ?_⟩
    · rw [Sec.text, ← HX.out.1, ← HCB.out]
      congr 2
    · have h1 := hB2.size
      have h2 := hb4.size
      simp at h2
      rw [hN]
      exact (((hB2.alloc (by omega) _).alloc (by simp; omega) _).trans (hb4.mono (by simp; omega))).trans (hb5.mono (by omega))
end Go.Proofs.YtegcnimekfanaaaGreat
