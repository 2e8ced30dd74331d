/-
  Package wal, walked: Append.
-/
import Derived.Test.YtegcnimekfanaaaGreatWalA
import Derived.Deep.DeepCutAuto
namespace Go.Proofs.YtegcnimekfanaaaGreat
open Go.RowKit

/-- The k-th sector of a record of n sectors. -/
def Lg.sec (L : Lg) (text : ByteArray) (n k : Nat) : Sec :=
  ⟨L.next + k, (if k = 0 then 1 else 0) + (if k = n - 1 then 2 else 0), text.extract (k * 44) (min ((k + 1) * 44) text.size)⟩
/-- The device behind the first k sectors of a record. -/
def Lg.put (L : Lg) (D : Dev) (text : ByteArray) (n : Nat) : Nat → Dev
  | 0 => D
  | k + 1 => (L.put D text n k).write (L.place (L.next + k)) ⟨(L.sec text n k).text.toArray⟩

structure Dev.Free (D : Dev) : Prop where
  down : D.down = false
  left : D.left < 0
theorem Dev.Free.may {D : Dev} (h : D.Free) : D.may = true := by
  have := h.left
  simp [Dev.may, h.down]; omega
theorem Dev.Free.write {D : Dev} (h : D.Free) (i : Nat) (t : ByteArray) : (D.write i t).Free := by
  have h1 := h.left
  have h2 := h.down
  unfold Dev.write
  rw [if_pos h.may]
  have e : D.call = { D with left := D.left, calls := wrap64 (D.calls + 1) } := by
    simp [Dev.call, h2]
    rw [if_neg (by omega), if_neg (by omega)]
  rw [e]
  exact ⟨h2, h1⟩
theorem Dev.Free.write_sectors {D : Dev} (h : D.Free) (i : Nat) (t : ByteArray) : (D.write i t).sectors = D.sectors ∧ (D.write i t).cache = D.cache ++ [((i : Int), Dev.pad t)] := by
  have h1 := h.left
  have h2 := h.down
  unfold Dev.write
  rw [if_pos h.may]
  have e : D.call = { D with left := D.left, calls := wrap64 (D.calls + 1) } := by
    simp [Dev.call, h2]
    rw [if_neg (by omega), if_neg (by omega)]
  rw [e]
  exact ⟨rfl, rfl⟩
theorem Lg.put_free (L : Lg) {D : Dev} (h : D.Free) (text : ByteArray) (n : Nat) : ∀ k, (L.put D text n k).Free
  | 0 => h
  | k + 1 => (L.put_free h text n k).write _ _
theorem Lg.put_sectors (L : Lg) {D : Dev} (h : D.Free) (text : ByteArray) (n : Nat) : ∀ k, (L.put D text n k).sectors = D.sectors ∧ (L.put D text n k).cache.length = D.cache.length + k
  | 0 => ⟨rfl, rfl⟩
  | k + 1 => by
    have h1 := (L.put_free h text n k).write_sectors (L.place (L.next + k)) ⟨(L.sec text n k).text.toArray⟩
    have h2 := L.put_sectors h text n k
    simp only [Lg.put]
    rw [h1.1, h1.2, List.length_append, h2.2]
    exact ⟨h2.1, rfl⟩

/-- A log and its device lie in the blocks G. -/
def LogDev (l p : Nat) (L : Lg) (D : Dev) (w : World) (G : List Nat) : Prop := ∃ F, G = l :: F ∧ l ∉ F ∧ LogAt w l p L ∧ DevAt w p F D

theorem cost_pos (n : Nat) : 1 ≤ cost n := by unfold cost; omega
theorem cost_le (n : Nat) : cost n * 44 ≤ n + 44 := by unfold cost; omega
theorem cost_ge (n : Nat) : n ≤ cost n * 44 := by unfold cost; omega

set_option maxHeartbeats 1000000 in
theorem wal_Append (w : World) (l p : Nat) (G : List Nat) (L : Lg) (D : Dev) (text : ByteArray) (h : LogDev l p L D w G) (hL : L.Ok) (hF : D.Free) (hn1 : D.sectors.length ≤ 65536) (hin : L.start + L.len ≤ D.sectors.length)
    (hcl : D.cache.length ≤ 900000) (ht : text.size ≤ 100000) (hfr : cost text.size ≤ L.free) :
    Calls Tryz.prog 29 #[.pointer (some ⟨l, 0, none⟩), .string text] w
      fun e w' => e = .returned (.tuple #[.agg #[.int .i64 L.next, .int .i64 (L.next + cost text.size - 1 : Nat), .string text], .int .i64 0]) ∧
        Goes w w' G (LogDev l p { L with next := L.next + cost text.size } (L.put D text (cost text.size) (cost text.size))) := by
  obtain ⟨F, rfl, hlF, hl, hD⟩ := h
  obtain ⟨n, hn⟩ : ∃ n, cost text.size = n := ⟨_, rfl⟩
  have hcp := cost_pos text.size
  have hcl2 := cost_le text.size
  have hcg := cost_ge text.size
  rw [hn] at hfr hcp hcl2 hcg
  have hz1 : decide (L.free < n) = false := by simp; omega
  have hz2 : decide ((1099511627776 : Int) < (L.next : Int) + n - 1) = false := by have := hL.next; simp; omega
  have hnx := hL.next
  go_enter Tryz.func29, Tryz.ntmps29
  go_wp2_with fail
  refine (wal_Cost _ _ (by omega)).mono ?_
  rintro e w1 ⟨rfl, rfl⟩
  rw [hn]
  go_wp2_with fail
  have hl1 : LogAt (w.alloc (.cells #[.int .i64 0, .int .i64 0, .string ⟨#[]⟩] 65)) l p L := block_alloc_old _ hl
  refine (wal_Free _ l p L hl1 hL).mono ?_
  rintro e w2 ⟨rfl, q, rfl⟩
  have hE0 : Ext [] w ((w.alloc (.cells #[.int .i64 0, .int .i64 0, .string ⟨#[]⟩] 65)).drewN q) := ((Ext.refl [] w).alloc _).drewN q
  have hl2 : LogAt ((w.alloc (.cells #[.int .i64 0, .int .i64 0, .string ⟨#[]⟩] 65)).drewN q) l p L := hl1
  have hD2 := hD.ext hE0 (by simp)
  have hR2 : ((w.alloc (.cells #[.int .i64 0, .int .i64 0, .string ⟨#[]⟩] 65)).drewN q).heap[w.heap.size]? = some (.cells #[.int .i64 0, .int .i64 0, .string ⟨#[]⟩] 65 (0, 0)) := block_alloc_new w _
  have hNF : ∀ x ∈ l :: F, x < w.heap.size := by
    intro x hx
    rcases List.mem_cons.1 hx with rfl | hx
    · exact lt_of_block hl
    · exact hD.lt x hx
  generalize hW : (w.alloc (.cells #[.int .i64 0, .int .i64 0, .string ⟨#[]⟩] 65)).drewN q = W at *
  obtain ⟨N, hN⟩ : ∃ N, w.heap.size = N := ⟨_, rfl⟩
  rw [hN] at hR2 hNF ⊢
  have HN := hid hN
  clear hW hl1 hN
  have hlN : l ≠ N := by have := hNF l (by simp); omega
  have hNW := lt_of_block hR2
  have c4 := cellOf (k := 4) hl2 rfl
  have hw1 : IntKind.i64.wrap ((L.next : Int) + n) = (L.next : Int) + n := IntWalk.i64_in _ (by omega)
  have hw2 : IntKind.i64.wrap ((L.next : Int) + n - 1) = (L.next : Int) + n - 1 := IntWalk.i64_in _ (by omega)
  go_wp2_with fail
  go_region_held3 (fun w' => w'.cell? ⟨l, 4, none⟩ = some (.int .i64 L.next)) (go_keep) (fail)
  clear hw1 hw2 c4
  go_wp2_with fail
  have hE3 : Ext [] W (W.alloc (.cells #[.int .i64 L.next, .int .i64 ((L.next : Int) + n - 1), .string text] 65)).drew := ((Ext.refl [] W).alloc _).drew
  have hM3 : (W.alloc (.cells #[.int .i64 L.next, .int .i64 ((L.next : Int) + n - 1), .string text] 65)).drew.heap[W.heap.size]? = some (.cells #[.int .i64 L.next, .int .i64 ((L.next : Int) + n - 1), .string text] 65 (0, 0)) := block_alloc_new W _
  have hl3 : LogAt (W.alloc (.cells #[.int .i64 L.next, .int .i64 ((L.next : Int) + n - 1), .string text] 65)).drew l p L := block_alloc_old _ hl2
  have hD3 := hD2.ext hE3 (by simp)
  have hR3 := hE3.block hR2 (by simp)
  generalize hV : (W.alloc (.cells #[.int .i64 L.next, .int .i64 ((L.next : Int) + n - 1), .string text] 65)).drew = V at *
  obtain ⟨M, hM⟩ : ∃ M, W.heap.size = M := ⟨_, rfl⟩
  rw [hM] at hM3 hNW ⊢
  have HM := hid hM
  have hEV : Ext [] w V := hE0.nil_of hE3
  clear hV hM hE0 hE3 hl2 hD2 hR2
  have hMV := lt_of_block hM3
  have hFl : ∀ x ∈ F, x ≠ l ∧ x ≠ N ∧ x ≠ M ∧ x < V.heap.size := fun x hx => ⟨fun e => hlF (e ▸ hx), by have := hNF x (List.mem_cons_of_mem _ hx); omega, by have := hNF x (List.mem_cons_of_mem _ hx); omega, by have := hNF x (List.mem_cons_of_mem _ hx); omega⟩
  go_loopw [8, 9, 10, 44] (fun _k _s _e i wr => ∃ k : Nat, k ≤ n ∧ i = .int .i64 k ∧ ∃ F', DevAt wr p F' (L.put D text n k) ∧ Ext F V wr ∧ ∀ x ∈ F', x ∈ F ∨ V.heap.size ≤ x) (fun _ _ _ i _ => n - (intOf i).toNat)
  case atStart => exact ⟨0, by omega, rfl, F, hD3, Ext.refl _ _, fun x hx => .inl hx⟩
  case round =>
    obtain ⟨k, hk, rfl, F', hDk, hEk, hFk⟩ := hrel
    have hlk := hEk.block hl3 hlF
    have c4 := cellOf (k := 4) hlk rfl
    have c0 := cellOf (k := 0) hlk rfl
    have c1 := cellOf (k := 1) hlk rfl
    have c2 := cellOf (k := 2) hlk rfl
    by_cases hlt : k < n
    · obtain ⟨hi, hhi⟩ : ∃ hi : Nat, min ((k + 1) * 44) text.size = hi := ⟨_, rfl⟩
      have hmin : min (((k : Int) + 1) * 44) (text.size : Int) = (hi : Int) := by omega
      have hlo : k * 44 ≤ hi := by
        have : (n - 1) * 44 ≤ text.size := by rw [← hn]; unfold cost; omega
        omega
      have hhs : hi ≤ text.size := by omega
      have hwk : IntKind.i64.wrap ((L.next : Int) + k) = (L.next : Int) + k := IntWalk.i64_in _ (by omega)
      have hwm : IntKind.i64.wrap ((k : Int) * 44) = (k : Int) * 44 := IntWalk.i64_in _ (by omega)
      have hwp : IntKind.i64.wrap ((k : Int) + 1) = (k : Int) + 1 := IntWalk.i64_in _ (by omega)
      have hwq : IntKind.i64.wrap (((k : Int) + 1) * 44) = ((k : Int) + 1) * 44 := IntWalk.i64_in _ (by omega)
      have hi1 : (0 : Int) ≤ (k : Int) * 44 := by omega
      have hi2 : (k : Int) * 44 ≤ (hi : Int) := by omega
      have hi3 : (hi : Int) ≤ (text.size : Int) := by omega
      have hHI := hid hhi
      clear hhi
      go_upto_region 10 with (fail)
      go_cut [9] (fun s wc => ∃ B, s = .pointer (some ⟨B, 0, none⟩) ∧ wr.heap.size ≤ B ∧ Ext [] wr wc ∧ wc.heap[B]? = some (.cells #[.int .i64 ((L.next : Int) + k), .int .u8 0, .string (text.extract ((k : Int) * 44).toNat hi)] 155 (0, 0)))
      case first =>
        go_region_held3 (fun w' => w'.cell? ⟨l, 4, none⟩ = some (.int .i64 L.next)) (go_keep) (fail)
        all_goals
          go_wp2_with fail
          go_meet
          case rel => exact ⟨_, rfl, Nat.le_refl _, ((Ext.refl [] wr).alloc _).drew, block_alloc_new wr _⟩
      case rest =>
        obtain ⟨B, rfl, hBw, hE4, hx4⟩ := hcut
        clear hwk hwm hwp hwq hi1 hi2 hi3 hmin c4
        have iff0 : (k = 0) ↔ ((k : Int) == 0) = true := by simp
        have iffn : (k = n - 1) ↔ ((k : Int) == (n : Int) - 1) = true := by simp; omega
        have hB1 := cellOf (k := 1) hx4 rfl
        have hBf := freeOf (k := 1) hx4
        go_upto_if 65 with (fail)
        go_cut [] (fun w5 => Ext [] wr w5 ∧ w5.heap[B]? = some (.cells #[.int .i64 ((L.next : Int) + k), .int .u8 (if k = 0 then 1 else 0), .string (text.extract ((k : Int) * 44).toNat hi)] 155 (0, 0)))
        case first =>
          by_cases hk0 : k = 0
          · have hb0 : ((k : Int) == 0) = true := iff0.1 hk0
            have e1 : bits .or .u8 0 1 = 1 := by decide
            go_wp2
            go_meet
            case rel =>
              rw [if_pos hk0]
              exact ⟨hE4.trans ((Ext.refl [B] _).setCell (.inl (by simp)) _) (by intro x hx hlt; simp at hx; omega), block_setCell_same (k := 1) _ hx4⟩
          · have hb0 : ((k : Int) == 0) = false := by simpa using hk0
            go_wp2
            go_meet
            case rel =>
              rw [if_neg hk0]
              exact ⟨hE4, hx4⟩
        case rest =>
          obtain ⟨hE5, hx5⟩ := hcut
          clear hB1 hBf hE4 hx4
          generalize hmk : (if k = 0 then (1 : Int) else 0) = mk at *
          have hB1 := cellOf (k := 1) hx5 rfl
          have hBf := freeOf (k := 1) hx5
          have hmk8 : bits .or .u8 mk 2 = mk + 2 := by rw [← hmk]; split <;> decide
          have HMK := hid hmk
          clear hmk
          go_upto_if 73 with (fail)
          go_cut [] (fun w6 => Ext [] wr w6 ∧ w6.heap[B]? = some (.cells #[.int .i64 ((L.next : Int) + k), .int .u8 (mk + (if k = n - 1 then 2 else 0)), .string (text.extract ((k : Int) * 44).toNat hi)] 155 (0, 0)))
          case first =>
            by_cases hkn : k = n - 1
            · have hb0 : ((k : Int) == (n : Int) - 1) = true := iffn.1 hkn
              go_wp2
              go_meet
              case rel =>
                rw [if_pos hkn]
                exact ⟨hE5.trans ((Ext.refl [B] _).setCell (.inl (by simp)) _) (by intro x hx hlt; simp at hx; omega), block_setCell_same (k := 1) _ hx5⟩
            · have hb0 : ((k : Int) == (n : Int) - 1) = false := by cases h : ((k : Int) == (n : Int) - 1) with
                | true => exact absurd (iffn.2 h) hkn
                | false => rfl
              go_wp2
              go_meet
              case rel =>
                rw [if_neg hkn, Int.add_zero]
                exact ⟨hE5, hx5⟩
          case rest =>
            obtain ⟨hE6, hx6⟩ := hcut
            clear hB1 hBf hE5 hx5 hmk8
            have hval : (L.sec text n k).val = .agg #[.int .i64 ((L.next : Int) + k), .int .u8 (mk + (if k = n - 1 then 2 else 0)), .string (text.extract ((k : Int) * 44).toNat hi)] := by
              rw [← hHI.out, ← HMK.out]; simp only [Lg.sec, Sec.val]
              have e1 : ((L.next + k : Nat) : Int) = (L.next : Int) + k := by omega
              have e2 : ((k : Int) * 44).toNat = k * 44 := by omega
              have e3 : (((if k = 0 then 1 else 0) + (if k = n - 1 then 2 else 0) : Nat) : Int) = (if k = 0 then (1 : Int) else 0) + (if k = n - 1 then (2 : Int) else 0) := by split <;> split <;> rfl
              rw [e1, e2, e3]
            generalize (mk + (if k = n - 1 then (2 : Int) else 0)) = mk2 at *
            have hl6 := hE6.block hlk (by simp)
            have hD6 := hDk.ext hE6 (by simp)
            have hl6l := lt_of_block hl6
            have d0 := cellOf (k := 0) hl6 rfl
            have d1 := cellOf (k := 1) hl6 rfl
            have d2 := cellOf (k := 2) hl6 rfl
            have b0 := cellOf (k := 0) hx6 rfl
            have b1 := cellOf (k := 1) hx6 rfl
            have b2 := cellOf (k := 2) hx6 rfl
            have hA := fun W => wal_at L (L.next + k) W hL (by omega)
            rw [show ((L.next + k : Nat) : Int) = (L.next : Int) + k by omega] at hA
            have hOk : (L.sec text n k).Ok := ⟨by simp [Lg.sec]; omega, by simp only [Lg.sec]; split <;> split <;> omega, by simp [Lg.sec]; omega⟩
            have hpl : L.place (L.next + k) < D.sectors.length := by
              have : (L.next + k) % L.len < L.len := Nat.mod_lt _ (by have := hL.len; omega)
              simp only [Lg.place]; omega
            have hps := L.put_sectors hF text n k
            have hpf := L.put_free hF text n k
            have hSW := fun W h => stamp_Write W p F' (L.put D text n k) (L.place (L.next + k)) (L.sec text n k) h (by rw [hps.1]; exact hpl) (by rw [hps.1]; exact hn1) (by have := hpf.left; omega) hpf.may (by rw [hps.2]; omega) hOk (by have := hL.pos; simp [Lg.sec]; omega)
            rw [hval] at hSW
            have HSW := hid hSW
            have HA := hid hA
            have HD6 := hid hD6
            have HX6 := hid (And.intro hl6 hx6)
            clear hA hSW hval hps hpf hD6 hl6 hx6
            have hlF' : l ∉ F' := fun hm => by
              rcases hFk l hm with h | h
              · exact hlF h
              · have := lt_of_block hl3; omega
            have hBF' : B ∉ F' := fun hm => by have := hDk.lt B hm; omega
            go_wp2_with fail
            go_region_held3 (fun w' => (w'.cell? ⟨l, 0, none⟩ = some (.pointer (some ⟨p, 0, none⟩)) ∧ w'.cell? ⟨l, 1, none⟩ = some (.int .i64 L.start) ∧ w'.cell? ⟨l, 2, none⟩ = some (.int .i64 L.len)) ∧ (w'.cell? ⟨B, 0, none⟩ = some (.int .i64 ((L.next : Int) + k)) ∧ w'.cell? ⟨B, 1, none⟩ = some (.int .u8 mk2) ∧ w'.cell? ⟨B, 2, none⟩ = some (.string (text.extract ((k : Int) * 44).toNat hi))))
              (first | go_keep | exact hK6 | exact hK7)
              (first | (go_at_call 81; refine (HA.out _).mono ?_; rintro e w7 ⟨rfl, hb7⟩; have hE7 := ((Ext.refl [] wc).drew).nil_of (Ext.of_below hb7); have hl7 := hE7.block HX6.out.1 (by simp); have hx7 := hE7.block HX6.out.2 (by simp); have hD7 := HD6.out.ext hE7 (by simp); have hK6 := And.intro (And.intro (cellOf (k := 0) hl7 rfl) (And.intro (cellOf (k := 1) hl7 rfl) (cellOf (k := 2) hl7 rfl))) (And.intro (cellOf (k := 0) hx7 rfl) (And.intro (cellOf (k := 1) hx7 rfl) (cellOf (k := 2) hx7 rfl)))) | (go_at_call 80; refine (HSW.out _ hD7).mono ?_; rintro e w8 ⟨rfl, hg8⟩; obtain ⟨F8, hD8, hE8, hF8⟩ := hg8; have hl8 := hE8.block hl7 hlF'; have hx8 := hE8.block hx7 hBF'; have hK7 := And.intro (And.intro (cellOf (k := 0) hl8 rfl) (And.intro (cellOf (k := 1) hl8 rfl) (cellOf (k := 2) hl8 rfl))) (And.intro (cellOf (k := 0) hx8 rfl) (And.intro (cellOf (k := 1) hx8 rfl) (cellOf (k := 2) hx8 rfl)))))
            all_goals
              clear hK6 hK7 b0 b1 b2 d0 d1 d2
              go_wp2
              go_roundw
              case rel =>
                refine ⟨k + 1, by omega, by go_num, F8, hD8, ?_, ?_⟩
                · refine ((hEk.nil_of hE6).nil_of hE7).trans hE8 ?_
                  intro x hx hlt
                  rcases hFk x hx with h | h
                  · exact h
                  · omega
                · intro x hx
                  rcases hF8 x hx with h | h
                  · exact hFk x h
                  · right; have h1 := hEk.size; have h2 := hE6.size; have h3 := hE7.size; omega
              case measure => simp [intOf]; omega
    · obtain rfl : k = n := by omega
      have hRk := hEk.block hR3 (fun hm => (hFl N hm).2.1 rfl)
      have hMk := hEk.block hM3 (fun hm => (hFl M hm).2.2.1 rfl)
      have m0 := cellOf (k := 0) hMk rfl
      have m1 := cellOf (k := 1) hMk rfl
      have m2 := cellOf (k := 2) hMk rfl
      have r0 := cellOf (k := 0) hRk rfl
      have r1 := cellOf (k := 1) hRk rfl
      have r2 := cellOf (k := 2) hRk rfl
      have hfl := freeOf (k := 4) hlk
      have hfr := fun j => freeOf (k := j) hRk
      have hwn : IntKind.i64.wrap ((L.next : Int) + k) = (L.next : Int) + k := IntWalk.i64_in _ (by omega)
      go_wp2
      try simp only [Exit.inBlock, Exit.then]
      refine bodyPost_ret (v := .tuple #[.agg #[.int .i64 L.next, .int .i64 ((L.next : Int) + k - 1), .string text], .int .i64 0]) (by simp [results, Tryz.results29, go_sem, r0, r1, r2]) rfl ⟨?_, ?_⟩
      · have e : ((L.next + cost text.size - 1 : Nat) : Int) = (L.next : Int) + k - 1 := by rw [hn]; omega
        rw [e]
      · rw [hn]
        have hl3l := lt_of_block hl3
        have hR3l := lt_of_block hR3
        have hl' : l ∉ F' := fun hm => by
          rcases hFk l hm with h | h
          · exact hlF h
          · omega
        have hN' : N ∉ F' := fun hm => by
          rcases hFk N hm with h | h
          · exact (hFl N h).2.1 rfl
          · omega
        have hEf : Ext [l, N] wr ((((wr.setCell ⟨l, 4, none⟩ (.int .i64 ((L.next : Int) + k))).setCell ⟨N, 0, none⟩ (.int .i64 L.next)).setCell ⟨N, 1, none⟩ (.int .i64 ((L.next : Int) + k - 1))).setCell ⟨N, 2, none⟩ (.string text)) :=
          ((((Ext.refl [l, N] wr).setCell (.inl (by simp)) _).setCell (.inl (by simp)) _).setCell (.inl (by simp)) _).setCell (.inl (by simp)) _
        refine ⟨l :: F', ⟨F', rfl, hl', ?_, hDk.ext hEf (by intro x hx hm; simp at hm; rcases hm with rfl | rfl; exact hl' hx; exact hN' hx)⟩, ?_, ?_⟩
        · have h4 := block_setCell_same (k := 4) (.int .i64 ((L.next : Int) + k)) hlk
          have e : ((L.next + k : Nat) : Int) = (L.next : Int) + k := by omega
          unfold LogAt
          simp only [e]
          exact block_setCell_other _ (block_setCell_other _ (block_setCell_other _ h4 (by simpa using hlN)) (by simpa using hlN)) (by simpa using hlN)
        · refine ((hEV.mono (T := l :: F) (by simp)).trans hEk (by intro x hx _; exact List.mem_cons_of_mem _ hx)).trans hEf ?_
          intro x hx hlt
          simp at hx
          rcases hx with rfl | rfl
          · simp
          · have := HN.out; omega
        · intro x hx
          rcases List.mem_cons.1 hx with rfl | hx
          · exact .inl (by simp)
          · rcases hFk x hx with h | h
            · exact .inl (List.mem_cons_of_mem _ h)
            · right; have := hEV.size; omega
end Go.Proofs.YtegcnimekfanaaaGreat
