/-
  Slices of ints as they are handed on: what Contains says of one.
-/
import Derived.Test.YtegcnimekfanaaaGreatShelf
import Derived.Test.YtegcnimekfanaaaGreatBase
namespace Go.Proofs.YtegcnimekfanaaaGreat
open Go.RowKit

/-- v is a slice of the ints xs; its cells lie in the block of bo, if it has any. -/
def IntsAt (w : World) (v : Value) (bo : Option Nat) (xs : List Int) : Prop :=
  ∃ a c, v = .slice a xs.length c ∧ ((xs = [] ∧ bo = none) ∨ ∃ b off, a = some ⟨b, off, none⟩ ∧ bo = some b ∧ ∀ j, j < xs.length → w.cell? ⟨b, off + j, none⟩ = some (.int .i64 (xs.getD j 0)))
theorem IntsAt.ext {S : List Nat} {w w' : World} {v : Value} {bo : Option Nat} {xs : List Int} (h : IntsAt w v bo xs) (he : Ext S w w') (hb : ∀ b, bo = some b → b ∉ S) : IntsAt w' v bo xs := by
  obtain ⟨a, c, rfl, h⟩ := h
  refine ⟨a, c, rfl, ?_⟩
  rcases h with h | ⟨b, off, rfl, rfl, h⟩
  · exact .inl h
  · exact .inr ⟨b, off, rfl, rfl, fun j hj => he.cell (h j hj) (hb b rfl)⟩
theorem IntsAt.form {w : World} {v : Value} {bo : Option Nat} {xs : List Int} (h : IntsAt w v bo xs) : ∃ a c, v = .slice a xs.length c := by
  obtain ⟨a, c, rfl, h⟩ := h
  exact ⟨_, _, rfl⟩

theorem ints_Contains {w : World} {v : Value} {bo : Option Nat} {xs : List Int} (x : Int) (h : IntsAt w v bo xs) (hbig : xs.length ≤ 9223372036854775807) :
    Calls Tryz.prog 85 #[v, .int .i64 x] w fun e w' => e = .returned (.bool (xs.contains x)) ∧ w = w' := by
  obtain ⟨a, c, rfl, h⟩ := h
  rcases h with ⟨rfl, -⟩ | ⟨b, off, rfl, -, h⟩
  · exact (Tryz.slices_Contains_int_empty a c x w).mono fun e w' ⟨h1, h2⟩ => ⟨by simpa using h1, h2.symm⟩
  · exact (Tryz.slices_Contains_int b off xs.length c xs x w (Nat.le_refl _) hbig h).mono fun e w' ⟨h1, h2⟩ => ⟨by simpa using h1, h2.symm⟩
end Go.Proofs.YtegcnimekfanaaaGreat
