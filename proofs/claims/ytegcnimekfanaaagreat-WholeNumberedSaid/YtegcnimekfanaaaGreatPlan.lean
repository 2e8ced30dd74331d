/-
  A region that draws its order, walked once, by a plan: what yields the same in all worlds that meet S is taken where the plan says; the rest comes one behind the other.
-/
import Derived.Deep.RegionHeld3
import Derived.Test.YtegcnimekfanaaaGreatBase
namespace Go.Proofs.YtegcnimekfanaaaGreat
open Go.RowKit

section
variable {P : Program} {ops : Array Oper} {Q : Exit → Act → World → Prop} {S : World → Prop} {md : Region.Mode}

def wpPlan (P : Program) (ops : Array Oper) (Q : Exit → Act → World → Prop) (S : World → Prop) : List (Oper × Bool) → Act → World → Prop
  | [], a, w => Q .normal a w
  | (o, true) :: r, a, w => ∃ v, YieldsIf P ops S o v a ∧ wpPlan P ops Q S r (a.put o.dst v) w
  | (o, false) :: r, a, w =>
    if Region.wanted o (yielded ops a.tmps) = true then Oper.wp P o a w (fun a' w' => S w' ∧ wpPlan P ops Q S r a' w') Q else wpPlan P ops Q S r (a.put o.dst undef) w

def planOk (md : Region.Mode) (ops : Array Oper) : List (Nat × Bool) → Array Bool → Bool
  | [], l => (Region.ready md ops l).isEmpty
  | (i, true) :: r, l => Region.free md ops l i && (Region.ready md ops l).contains i && planOk md ops r (l.setIfInBounds i true)
  | (i, false) :: r, l => (Region.ready md ops l == [i]) && planOk md ops r (l.setIfInBounds i true)

def planOps (ops : Array Oper) (plan : List (Nat × Bool)) : List (Oper × Bool) := plan.map fun p => ((ops[p.1]?).getD default, p.2)

theorem wpAnyH_plan (hs : Region.noSelect ops = true) (hQ : ∀ c (a : Act) (d : Tmp) v w, Q (.panic c) (a.put (some d) v) w → Q (.panic c) a w) :
    ∀ (plan : List (Nat × Bool)) (listed : Array Bool) (a : Act) (w : World), planOk md ops plan listed = true → S w → wpPlan P ops Q S (planOps ops plan) a w → wpAnyH P md ops Q S plan.length listed a w
  | [], listed, a, w, hok, _, h => by
    have h1 : Region.ready md ops listed = [] := by simpa [planOk] using hok
    exact wpAnyH_done h1 h 0
  | (i, true) :: r, listed, a, w, hok, hS, h => by
    simp only [planOk, Bool.and_eq_true] at hok
    obtain ⟨⟨h1, h2⟩, h3⟩ := hok
    obtain ⟨oi, ho⟩ : ∃ oi, ops[i]? = some oi := by
      cases ho : ops[i]? with
      | none => simp [Region.free, ho] at h1
      | some oi => exact ⟨oi, rfl⟩
    have e : planOps ops ((i, true) :: r) = (oi, true) :: planOps ops r := by simp [planOps, ho]
    rw [e] at h
    obtain ⟨v, hy, h4⟩ := h
    exact wpAnyH_take ho hs h1 h2 (fun c a w => by
      cases oi.dst with
      | none => exact fun h => h
      | some d => exact hQ c a d v w) hy hS (wpAnyH_plan hs hQ r _ _ _ h3 hS h4)
  | (i, false) :: r, listed, a, w, hok, hS, h => by
    simp only [planOk, Bool.and_eq_true, beq_iff_eq] at hok
    obtain ⟨h1, h3⟩ := hok
    obtain ⟨oi, ho⟩ : ∃ oi, ops[i]? = some oi := by
      have hm : i ∈ Region.ready md ops listed := by rw [h1]; simp
      obtain ⟨-, o, ho, -⟩ := mem_ready.1 hm
      exact ⟨o, ho⟩
    have e : planOps ops ((i, false) :: r) = (oi, false) :: planOps ops r := by simp [planOps, ho]
    rw [e] at h
    refine wpAnyH_all h1 (by simp) fun j hj => ?_
    obtain rfl : j = i := by simpa using hj
    unfold wpOp
    rw [ho]
    simp only [wpPlan] at h ⊢
    split
    · rename_i hw
      rw [if_pos hw] at h
      exact .inl (Oper.wp_mono (fun a' w' hh => ⟨hh.1, wpAnyH_plan hs hQ r _ _ _ h3 hh.1 hh.2⟩) h)
    · rename_i hw
      rw [if_neg hw] at h
      exact ⟨hS, wpAnyH_plan hs hQ r _ _ _ h3 hS h⟩

theorem wp_region_plan {id : Nat} {a : Act} {w : World} (S : World → Prop) (plan : List (Nat × Bool)) (hm : P.follows .mixedOrders = true)
    (hok : (Region.noSelect ops && (plan.length == ops.size) && planOk .any ops plan (Array.replicate ops.size false)) = true)
    (hQ : ∀ c (a : Act) (d : Tmp) v w, Q (.panic c) (a.put (some d) v) w → Q (.panic c) a w) (hS : S w.drew)
    (h : S w.drew → wpPlan P ops Q S (planOps ops plan) a w.drew) : (Code.region id ops true).wp P Q a w := by
  simp only [Bool.and_eq_true, beq_iff_eq] at hok
  obtain ⟨⟨h1, h2⟩, h3⟩ := hok
  refine wp_region_held_drew (S := S) hm hS fun _ => ?_
  have := wpAnyH_plan (P := P) (Q := Q) (S := S) h1 hQ plan _ a w.drew h3 hS (h hS)
  rwa [h2] at this

theorem plan_take {o : Oper} {r : List (Oper × Bool)} {a : Act} {w : World} {v : Value} (hw : Region.wanted o (yielded ops a.tmps) = true) (hv : ∀ w, S w → (execOp a.eval o).run P w = .ok (.value v) w)
    (h : wpPlan P ops Q S r (a.put o.dst v) w) : wpPlan P ops Q S ((o, true) :: r) a w := ⟨v, .inl ⟨hw, hv⟩, h⟩
theorem plan_skip {o : Oper} {b : Bool} {r : List (Oper × Bool)} {a : Act} {w : World} (hw : Region.wanted o (yielded ops a.tmps) = false) (h : wpPlan P ops Q S r (a.put o.dst undef) w) :
    wpPlan P ops Q S ((o, b) :: r) a w := by
  cases b
  · simp only [wpPlan]; rw [if_neg (by rw [hw]; simp)]; exact h
  · exact ⟨undef, .inr ⟨hw, rfl⟩, h⟩
theorem plan_call {o : Oper} {r : List (Oper × Bool)} {a : Act} {w : World} (hw : Region.wanted o (yielded ops a.tmps) = true)
    (h : ∀ K : Act → World → Prop, Shut (∀ a' w', S w' → (S w' → wpPlan P ops Q S r a' w') → K a' w') → Oper.wp P o a w K Q) : wpPlan P ops Q S ((o, false) :: r) a w := by
  simp only [wpPlan]
  rw [if_pos hw]
  exact h _ fun a' w' hS hh => ⟨hS, hh hS⟩
theorem plan_end {a : Act} {w : World} (h : Q .normal a w) : wpPlan P ops Q S [] a w := h
end

theorem Ext.old {w w' : World} (h : Ext [] w w') : (∀ b o, b < w.heap.size → w'.cell? ⟨b, o, none⟩ = w.cell? ⟨b, o, none⟩) ∧ (∀ b o, b < w.heap.size → w'.frozen? ⟨b, o, none⟩ = w.frozen? ⟨b, o, none⟩) :=
  ⟨fun b o hb => World.cell?_of_block (w := w) (h.same b hb (by simp)), fun b o hb => World.frozen?_of_block (w := w) (h.same b hb (by simp))⟩
theorem Ext.self_drew (w : World) : Ext [] w w.drew := (Ext.refl [] w).drew
end Go.Proofs.YtegcnimekfanaaaGreat
