/-
  What an op is: its type, its word; package method's table, walked.
-/
import Derived.Test.YtegcnimekfanaaaGreatStepB
namespace Go.Proofs.YtegcnimekfanaaaGreat
open Go.RowKit

structure Shp where
  kind : Int
  word : ByteArray
  a : Bool
  b : Bool
  n : Bool
@[reducible] def Shp.v (s : Shp) : Value := .agg #[.int .i64 s.kind, .string s.word, .bool s.a, .bool s.b, .bool s.n]
def shapeTab : List Shp :=
  [⟨1, ⟨#[114, 101, 97, 100]⟩, false, false, false⟩, ⟨1, ⟨#[119, 114, 105, 116, 101]⟩, true, false, false⟩, ⟨2, ⟨#[97, 100, 100]⟩, false, false, true⟩, ⟨2, ⟨#[99, 111, 117, 110, 116]⟩, false, false, false⟩,
   ⟨3, ⟨#[99, 114, 101, 100, 105, 116]⟩, false, false, true⟩, ⟨3, ⟨#[100, 101, 98, 105, 116]⟩, false, false, true⟩, ⟨3, ⟨#[98, 97, 108, 97, 110, 99, 101]⟩, false, false, false⟩,
   ⟨4, ⟨#[105, 110, 115, 101, 114, 116]⟩, true, false, false⟩, ⟨4, ⟨#[114, 101, 109, 111, 118, 101]⟩, true, false, false⟩, ⟨4, ⟨#[104, 97, 115]⟩, true, false, false⟩,
   ⟨5, ⟨#[98, 105, 110, 100]⟩, true, true, false⟩, ⟨5, ⟨#[117, 110, 98, 105, 110, 100]⟩, true, false, false⟩, ⟨5, ⟨#[108, 111, 111, 107]⟩, true, false, false⟩,
   ⟨6, ⟨#[101, 110, 113]⟩, true, false, false⟩, ⟨6, ⟨#[100, 101, 113]⟩, false, false, false⟩, ⟨7, ⟨#[112, 117, 116]⟩, true, false, false⟩, ⟨7, ⟨#[116, 97, 107, 101]⟩, false, false, false⟩]
def Shp.none : Shp := ⟨0, ⟨#[]⟩, false, false, false⟩
def shapeOf (op : Int) : Shp := if 1 ≤ op ∧ op ≤ 17 then shapeTab.getD (op - 1).toNat Shp.none else Shp.none
def kindOf (op : Int) : Int := (shapeOf op).kind
def wordOf (op : Int) : ByteArray := (shapeOf op).word

def shapeCells : Array Value := (shapeTab.flatMap fun s => [.int .i64 s.kind, .string s.word, .bool s.a, .bool s.b, .bool s.n]).toArray

set_option maxRecDepth 8000 in
set_option maxHeartbeats 4000000 in
theorem method_shapes (w : World) : Calls Tryz.prog 125 #[] w fun e w' => e = .returned (.slice (some ⟨w.heap.size, 0, none⟩) 17 17) ∧ w.alloc (.cells shapeCells 177) = w' := by
  go_enter Tryz.func125, Tryz.ntmps125
  go_wp2
  go_ret
  exact ⟨rfl, rfl⟩

theorem shape_cells (k : Nat) (hk : k < 17) : ∃ s, shapeOf ((k : Int) + 1) = s ∧ shapeCells[k * 5]? = some (.int .i64 s.kind) ∧ shapeCells[k * 5 + 1]? = some (.string s.word) ∧ shapeCells[k * 5 + 2]? = some (.bool s.a) ∧
    shapeCells[k * 5 + 3]? = some (.bool s.b) ∧ shapeCells[k * 5 + 4]? = some (.bool s.n) := by
  refine ⟨shapeTab.getD k Shp.none, ?_, ?_⟩
  · unfold shapeOf
    rw [if_pos (by omega)]
    congr 1
    omega
  · have ho : k = 0 ∨ k = 1 ∨ k = 2 ∨ k = 3 ∨ k = 4 ∨ k = 5 ∨ k = 6 ∨ k = 7 ∨ k = 8 ∨ k = 9 ∨ k = 10 ∨ k = 11 ∨ k = 12 ∨ k = 13 ∨ k = 14 ∨ k = 15 ∨ k = 16 := by omega
    rcases ho with rfl | rfl | rfl | rfl | rfl | rfl | rfl | rfl | rfl | rfl | rfl | rfl | rfl | rfl | rfl | rfl | rfl <;> exact ⟨rfl, rfl, rfl, rfl, rfl⟩

set_option maxRecDepth 8000 in
theorem method_shape (op : Int) (w : World) : Calls Tryz.prog 91 #[.int .i64 op] w fun e w' => e = .returned (shapeOf op).v ∧ Ext [] w w' := by
  by_cases h1 : op < 1
  · have hs : shapeOf op = Shp.none := by unfold shapeOf; rw [if_neg (by omega)]
    rw [hs]
    clear hs
    go_enter Tryz.func91, Tryz.ntmps91
    go_wp2
    exact bodyPost_ret (v := .agg #[.int .i64 0, .string ⟨#[]⟩, .bool false, .bool false, .bool false]) (by simp [results, Tryz.results91, go_sem]) rfl ⟨rfl, (Ext.refl [] w).alloc _⟩
  · by_cases h2 : 17 < op
    · have hs : shapeOf op = Shp.none := by unfold shapeOf; rw [if_neg (by omega)]
      rw [hs]
      clear hs
      go_enter Tryz.func91, Tryz.ntmps91
      go_wp2
      exact bodyPost_ret (v := .agg #[.int .i64 0, .string ⟨#[]⟩, .bool false, .bool false, .bool false]) (by simp [results, Tryz.results91, go_sem]) rfl ⟨rfl, (Ext.refl [] w).alloc _⟩
    · obtain ⟨k, rfl⟩ : ∃ k : Nat, op = (k : Int) + 1 := ⟨(op - 1).toNat, by omega⟩
      have hk : k < 17 := by omega
      obtain ⟨s, hs, s0, s1, s2, s3, s4⟩ := shape_cells k hk
      rw [hs]
      clear hs h1 h2
      have hb0 := block_alloc_new2 w (.cells #[.int .i64 0, .string ⟨#[]⟩, .bool false, .bool false, .bool false] 177) (.cells shapeCells 177)
      have c0 := cellOf hb0 s0
      have c1 := cellOf hb0 s1
      have c2 := cellOf hb0 s2
      have c3 := cellOf hb0 s3
      have c4 := cellOf hb0 s4
      clear hb0 s0 s1 s2 s3 s4
      go_enter Tryz.func91, Tryz.ntmps91
      go_wp2_with fail
      refine (method_shapes _).mono ?_
      rintro e w1 ⟨rfl, rfl⟩
      go_wp2
      exact bodyPost_ret (v := s.v) (by simp [results, Tryz.results91, go_sem]) rfl ⟨rfl, ((Ext.refl [] w).alloc _).alloc _⟩

end Go.Proofs.YtegcnimekfanaaaGreat
