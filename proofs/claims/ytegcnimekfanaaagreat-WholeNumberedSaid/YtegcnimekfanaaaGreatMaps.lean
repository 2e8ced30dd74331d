/-
  Maps by int keys, as lists rising by key: at the bottom the kit's own word on a map that the call owns.
-/
import Derived.Maps.OwnSet
import Derived.Maps.Ext
import Derived.Lib.SlKeysI
import Derived.Test.YtegcnimekfanaaaGreatIter
import Derived.Test.YtegcnimekfanaaaGreatInts
namespace Go.Proofs.YtegcnimekfanaaaGreat
open Go.RowKit Go.Maps

def I64 (k : Int) : Prop := -9223372036854775808 ≤ k ∧ k ≤ 9223372036854775807
theorem I64.wf {k : Int} (h : I64 k) : (Lit.int .i64 k).wf = true := by
  unfold I64 at h
  simp only [Lit.wf, Bool.and_eq_true, decide_eq_true_eq]
  exact h

/-! ### lists by keys -/
section
variable {α β : Type}
def mget (l : List (Int × α)) (k : Int) : Option α := (l.find? (fun p => p.1 == k)).map (·.2)
def mins (x : Int × α) : List (Int × α) → List (Int × α)
  | [] => [x]
  | p :: r => if x.1 < p.1 then x :: p :: r else p :: mins x r
def mdel (l : List (Int × α)) (k : Int) : List (Int × α) := l.filter fun p => p.1 != k
def mput (l : List (Int × α)) (k : Int) (v : α) : List (Int × α) := mins (k, v) (mdel l k)
end

abbrev MR : Value → Option (DataW Value × List MemPlace) := fun v => some (.held v, [])
abbrev mlit (p : Int × Value) : Lit × DataW Value := (.int .i64 p.1, .held p.2)
def mapD (l : List (Int × Value)) : DataW Value := .map (l.map mlit)
def MapAt (w : World) (b : Nat) (l : List (Int × Value)) : Prop := ∃ n, w.ownsMap Tryz.prog 3 MR b n (mapD l)

theorem mapD_get (l : List (Int × Value)) (k : Int) (z : Value) : (mapD l).atKey (.int .i64 k) (.held z) = .held ((mget l k).getD z) := by
  unfold mapD DataW.atKey mget
  simp only [List.find?_map, Function.comp_def]
  have : (fun p : Int × Value => (mlit p).1.sameKey (.int .i64 k)) = fun p => p.1 == k := by
    funext p; simp [Lit.sameKey, BEq.beq]
  rw [this]
  cases l.find? (fun p => p.1 == k) <;> rfl
theorem mapD_del (l : List (Int × Value)) (k : Int) : (mapD l).del (.int .i64 k) = mapD (mdel l k) := by
  unfold mapD DataW.del mdel
  simp only [List.filter_map, Function.comp_def]
  have : (fun p : Int × Value => !(mlit p).1.sameKey (.int .i64 k)) = fun p => p.1 != k := by
    funext p; simp [Lit.sameKey, bne, BEq.beq]
  rw [this]
theorem mapD_ins (x : Int × Value) (l : List (Int × Value)) : DataW.insert (mlit x) (l.map mlit) = (mins x l).map mlit := by
  induction l with
  | nil => rfl
  | cons p r ih =>
    simp only [List.map_cons, DataW.insert, mins, mlit, Lit.before, decide_eq_true_eq] at *
    split
    · rfl
    · simp [ih]
theorem mapD_put (l : List (Int × Value)) (k : Int) (v : Value) : (mapD l).put (.int .i64 k) (.held v) = mapD (mput l k v) := by
  have h : mapD (mdel l k) = .map ((l.map mlit).filter fun p => !p.1.sameKey (.int .i64 k)) := (mapD_del l k).symm
  show DataW.map (DataW.insert (mlit (k, v)) ((l.map mlit).filter fun p => !p.1.sameKey (.int .i64 k))) = _
  have h2 : (mdel l k).map mlit = (l.map mlit).filter fun p => !p.1.sameKey (.int .i64 k) := by simpa [mapD] using h
  rw [← h2, mapD_ins]
  rfl
theorem mapD_keys (l : List (Int × Value)) : intKeys (mapD l) = l.map (·.1) := by simp [Go.intKeys, mapD, Go.intOf]
theorem mapD_size (l : List (Int × Value)) : Maps.size (mapD l) = l.length := by simp [Maps.size, mapD]

theorem k3 : Keyed Tryz.prog 3 := int_keyed Tryz.underlying3
theorem key3 {k : Int} (h : I64 k) : keyOf Tryz.prog 3 (.int .i64 k) = some (.int .i64 k) := keyOf_int_mk Tryz.underlying3 h.wf

theorem MapAt.own {w : World} {b : Nat} {l : List (Int × Value)} (h : MapAt w b l) : w.ownsMap Tryz.prog 3 MR b l.length (mapD l) := by
  obtain ⟨n, es, clock, hb, F, hs, hD⟩ := h
  refine ⟨es, clock, hb, F, ?_, hD⟩
  have h1 := congrArg Maps.size hD
  rw [mapD_size] at h1
  rw [h1, Maps.size_eq, length_sorted]
  simp
theorem MapAt.made (w : World) : MapAt (w.alloc (.map #[] 0)) w.heap.size [] := ⟨0, World.ownsMap_made w _ _ _⟩
theorem MapAt.lt {w : World} {b : Nat} {l : List (Int × Value)} (h : MapAt w b l) : b < w.heap.size := by obtain ⟨n, h⟩ := h; exact h.lt
theorem MapAt.map {w : World} {b : Nat} {l : List (Int × Value)} (h : MapAt w b l) : ∃ es c, w.heap[b]? = some (.map es c) := by
  obtain ⟨n, es, clock, hb, _⟩ := h; exact ⟨es, clock, hb⟩
theorem MapAt.ext {S : List Nat} {w w' : World} {b : Nat} {l : List (Int × Value)} (h : MapAt w b l) (he : Ext S w w') (hS : b ∉ S) : MapAt w' b l := by
  have hl := h.lt
  obtain ⟨n, es, clock, hb, F, hs, hD⟩ := h
  exact ⟨n, es, clock, (he.same b hl hS).trans hb, F, hs, hD⟩
theorem MapAt.rising {w : World} {b : Nat} {l : List (Int × Value)} (h : MapAt w b l) : (l.map (·.1)).Pairwise (· < ·) := by
  obtain ⟨n, h⟩ := h
  obtain ⟨es, he, hp, hk⟩ := h.canon k3
  simp only [mapD, DataW.map.injEq] at he
  subst he
  rw [List.pairwise_map] at hp ⊢
  refine hp.imp fun {a b} hab => ?_
  simpa [mlit, Lit.before] using hab
theorem MapAt.lookup {w : World} {b : Nat} {l : List (Int × Value)} (h : MapAt w b l) {t e : TypeId} (ht : Tryz.prog.underlying t = some (.map 3 e)) {z : Value} (hz : ∀ w, (zeroValue e).run Tryz.prog w = .ok z w) {k : Int} (hk : I64 k) :
    (Instr.lookup t (.map (some b)) (.int .i64 k) false).run Tryz.prog w = .ok ((mget l k).getD z) w := by
  obtain ⟨v, ps, hrun, hv⟩ := h.own.lookup (t := t) k3 ht (hz w) (zd := .held z) (zp := []) rfl (key3 hk)
  rw [mapD_get] at hv
  simp at hv
  rw [hrun, hv.1]
theorem MapAt.update {w : World} {b : Nat} {l : List (Int × Value)} (h : MapAt w b l) {t e : TypeId} (ht : Tryz.prog.underlying t = some (.map 3 e)) (hn : l.length < maxLen) {k : Int} (hk : I64 k) (v : Value) :
    ∃ w', (Instr.mapUpdate t (.map (some b)) (.int .i64 k) v).run Tryz.prog w = .ok () w' ∧ MapAt w' b (mput l k v) ∧ Ext [b] w w' ∧ w.mapTurned w' b := by
  obtain ⟨w', hrun, h1, h2⟩ := h.own.store (t := t) k3 ht hn (key3 hk) (d := .held v) (ps := []) rfl
  rw [mapD_put] at h1
  exact ⟨w', hrun, ⟨_, h1⟩, (Ext.refl _ w).grown h2.grown (fun k hk => by cases hk; simp), h2⟩
theorem MapAt.delete {w : World} {b : Nat} {l : List (Int × Value)} (h : MapAt w b l) {t e : TypeId} (ht : Tryz.prog.underlying t = some (.map 3 e)) {k : Int} (hk : I64 k) (ty : TypeId) :
    ∃ w', (Builtin.delete_ #[t, 3] ty #[.map (some b), .int .i64 k]).run Tryz.prog w = .ok (.tuple #[]) w' ∧ MapAt w' b (mdel l k) ∧ Ext [b] w w' ∧ w.mapTurned w' b := by
  obtain ⟨w', hrun, h1, h2⟩ := h.own.drop (t := t) k3 ht (key3 hk) ty
  rw [mapD_del] at h1
  exact ⟨w', hrun, ⟨_, h1⟩, (Ext.refl _ w).grown h2.grown (fun k hk => by cases hk; simp), h2⟩
end Go.Proofs.YtegcnimekfanaaaGreat
