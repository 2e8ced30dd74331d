/-
  Package commute, walked: plain, Possible, rules.
-/
import Derived.Test.YtegcnimekfanaaaGreatStepC
import Derived.Test.YtegcnimekfanaaaGreatInts
import Derived.Deep.LoopGhost
namespace Go.Proofs.YtegcnimekfanaaaGreat
open Go.RowKit

set_option maxRecDepth 8000 in
theorem method_Kind (op : Int) (w : World) : Calls Tryz.prog 49 #[.int .i64 op] w fun e w' => e = .returned (.int .i64 (kindOf op)) ∧ Ext [] w w' := by
  have c := method_shape op w
  unfold kindOf
  generalize shapeOf op = s at *
  simp only [Shp.v] at c
  go_enter Tryz.func49, Tryz.ntmps49
  go_wp2_with fail
  refine c.mono ?_
  rintro e w1 ⟨rfl, hE⟩
  have hf : (Instr.field 177 (.agg #[.int .i64 s.kind, .string s.word, .bool s.a, .bool s.b, .bool s.n]) 0).run Tryz.prog w1 = .ok (.int .i64 s.kind) w1 := by kernel_rfl
  go_wp2
  go_ret
  exact ⟨rfl, hE⟩
set_option maxRecDepth 8000 in
theorem method_Word (op : Int) (w : World) : Calls Tryz.prog 44 #[.int .i64 op] w fun e w' => e = .returned (.string (wordOf op)) ∧ Ext [] w w' := by
  have c := method_shape op w
  unfold wordOf
  generalize shapeOf op = s at *
  simp only [Shp.v] at c
  go_enter Tryz.func44, Tryz.ntmps44
  go_wp2_with fail
  refine c.mono ?_
  rintro e w1 ⟨rfl, hE⟩
  have hf : (Instr.field 177 (.agg #[.int .i64 s.kind, .string s.word, .bool s.a, .bool s.b, .bool s.n]) 1).run Tryz.prog w1 = .ok (.string s.word) w1 := by kernel_rfl
  go_wp2
  go_ret
  exact ⟨rfl, hE⟩
def Res.is (r : Res) (c : Int) : Bool := r.code == c && (r.text.toList.isEmpty && r.n == 0)
def NotYet (r : Res) (cs : List Int) (j : Nat) : Prop := (cs.take j).any r.is = false

set_option maxRecDepth 8000 in
theorem commute_plain (r : Res) (w : World) (v : Value) (bo : Option Nat) (cs : List Int) (h : IntsAt w v bo cs) (hl : cs.length ≤ 1000) :
    Calls Tryz.prog 92 #[r.v, v] w fun e w' => e = .returned (.bool (cs.any r.is)) ∧ Ext [] w w' := by
  obtain ⟨a, c, rfl⟩ := h.form
  obtain ⟨n, hn⟩ : ∃ n, cs.length = n := ⟨_, rfl⟩
  rw [hn] at hl h ⊢
  replace hn := hid hn
  obtain ⟨rc, rt, rn⟩ := r
  simp only [Res.v]
  go_enter Tryz.func92, Tryz.ntmps92
  go_wp2_with fail
  have hE0 := (Ext.refl [] w).alloc (.cells #[.int .i64 rc, .string rt, .int .i64 rn] 88)
  have hh := h.ext hE0 (by simp)
  go_loop [4, 6, 9] (fun _ _ s9 => ∃ j : Nat, j ≤ n ∧ s9 = .int .i64 (j : Int) ∧ NotYet ⟨rc, rt, rn⟩ cs j) (fun _ _ s9 => n - (intOf s9).toNat)
  case atStart => exact ⟨0, by omega, rfl, rfl⟩
  case round =>
    obtain ⟨j, hj, rfl, hany⟩ := hrel
    by_cases hlt : j < n
    · have hkl : j < cs.length := by rw [hn.out]; exact hlt
      obtain ⟨b, off, rfl, hcell⟩ : ∃ b off, a = some ⟨b, off, none⟩ ∧ (w.alloc (.cells #[.int .i64 rc, .string rt, .int .i64 rn] 88)).cell? ⟨b, off + j, none⟩ = some (.int .i64 cs[j]) := by
        obtain ⟨a', c', hv', h' | ⟨b, off, h1, h2, h3⟩⟩ := hh
        · rw [h'.1] at hkl; simp at hkl
        · cases hv'
          refine ⟨b, off, h1, ?_⟩
          rw [h3 j hkl]
          simp [hkl]
      have hnext : Res.is ⟨rc, rt, rn⟩ cs[j] = false → NotYet ⟨rc, rt, rn⟩ cs (j + 1) := fun h => by
        unfold NotYet at hany ⊢
        rw [List.take_succ_eq_append_getElem hkl, List.any_append, hany]; simpa using h
      have hmem : Res.is ⟨rc, rt, rn⟩ cs[j] = true → cs.any (Res.is ⟨rc, rt, rn⟩) = true := fun h => List.any_eq_true.2 ⟨_, List.getElem_mem hkl, h⟩
      obtain ⟨y, hy⟩ : ∃ y, cs[j] = y := ⟨_, rfl⟩
      rw [hy] at hcell hnext hmem
      clear hy hkl hany
      replace hnext := hid hnext
      replace hmem := hid hmem
      replace hE0 := hid hE0
      go_wp2
      all_goals (try (have e : rc = y := by assumption); subst e)
      · have e2 : rt.toList = [] := by assumption
        have e3 : rn = 0 := by assumption
        subst e3
        go_ret
        refine ⟨?_, hE0.out⟩
        rw [hmem.out (by simp [Res.is, e2])]
        rfl
      all_goals
        have hf := hnext.out (by simp [Res.is, *])
        go_round
        case rel => first | exact ⟨_, _, _, ⟨j + 1, by omega, by go_num, hf⟩, rfl, rfl, rfl⟩ | exact ⟨j + 1, by omega, by go_num, hf⟩ | exact ⟨_, _, ⟨j + 1, by omega, by go_num, hf⟩, rfl, rfl⟩
        case measure => simp [intOf]; omega
    · obtain rfl : j = n := by omega
      have e : cs.any (Res.is ⟨rc, rt, rn⟩) = false := by
        unfold NotYet at hany
        rwa [List.take_of_length_le (by rw [hn.out]; exact Nat.le_refl _)] at hany
      replace e := hid e
      clear hany
      go_wp2
      go_ret
      rw [e.out]
      exact ⟨rfl, hE0⟩
end Go.Proofs.YtegcnimekfanaaaGreat
