/-
  Maps by string keys, as lists rising by key (their bytes): at the bottom the kit's own word on a map that the call owns.
-/
import Derived.StringKeys
import Derived.Maps.StringElems
import Derived.Test.YtegcnimekfanaaaGreatMaps
namespace Go.Proofs.YtegcnimekfanaaaGreat
open Go.RowKit Go.Maps

abbrev Bts := List UInt8
section
variable {α β : Type}
def sget (l : List (Bts × α)) (k : Bts) : Option α := (l.find? (fun p => p.1 == k)).map (·.2)
def sins (x : Bts × α) : List (Bts × α) → List (Bts × α)
  | [] => [x]
  | p :: r => if bytesBefore x.1 p.1 then x :: p :: r else p :: sins x r
def sdel (l : List (Bts × α)) (k : Bts) : List (Bts × α) := l.filter fun p => p.1 != k
def sput (l : List (Bts × α)) (k : Bts) (v : α) : List (Bts × α) := sins (k, v) (sdel l k)
end

abbrev slit (p : Bts × Value) : Lit × DataW Value := (.string p.1, .held p.2)
def smapD (l : List (Bts × Value)) : DataW Value := .map (l.map slit)
def SMapAt (w : World) (b : Nat) (l : List (Bts × Value)) : Prop := ∃ n, w.ownsMap Tryz.prog 9 MR b n (smapD l)

theorem smapD_get (l : List (Bts × Value)) (k : Bts) (z : Value) : (smapD l).atKey (.string k) (.held z) = .held ((sget l k).getD z) := by
  unfold smapD DataW.atKey sget
  simp only [List.find?_map, Function.comp_def]
  have : (fun p : Bts × Value => (slit p).1.sameKey (.string k)) = fun p => p.1 == k := by
    funext p; simp [Lit.sameKey]
  rw [this]
  cases l.find? (fun p => p.1 == k) <;> rfl
theorem smapD_del (l : List (Bts × Value)) (k : Bts) : (smapD l).del (.string k) = smapD (sdel l k) := by
  unfold smapD DataW.del sdel
  simp only [List.filter_map, Function.comp_def]
  have : (fun p : Bts × Value => !(slit p).1.sameKey (.string k)) = fun p => p.1 != k := by
    funext p; simp [Lit.sameKey, bne]
  rw [this]
theorem smapD_ins (x : Bts × Value) (l : List (Bts × Value)) : DataW.insert (slit x) (l.map slit) = (sins x l).map slit := by
  induction l with
  | nil => rfl
  | cons p r ih =>
    have e : DataW.insert (slit x) (slit p :: r.map slit) = if bytesBefore x.1 p.1 = true then slit x :: slit p :: r.map slit else slit p :: DataW.insert (slit x) (r.map slit) := rfl
    rw [List.map_cons, e, sins]
    by_cases h : bytesBefore x.1 p.1 = true
    · rw [if_pos h, if_pos h]; rfl
    · rw [if_neg h, if_neg h, List.map_cons, ih]
theorem smapD_put (l : List (Bts × Value)) (k : Bts) (v : Value) : (smapD l).put (.string k) (.held v) = smapD (sput l k v) := by
  have h : smapD (sdel l k) = .map ((l.map slit).filter fun p => !p.1.sameKey (.string k)) := (smapD_del l k).symm
  show DataW.map (DataW.insert (slit (k, v)) ((l.map slit).filter fun p => !p.1.sameKey (.string k))) = _
  have h2 : (sdel l k).map slit = (l.map slit).filter fun p => !p.1.sameKey (.string k) := by simpa [smapD] using h
  rw [← h2, smapD_ins]
  rfl
theorem smapD_size (l : List (Bts × Value)) : Maps.size (smapD l) = l.length := by simp [Maps.size, smapD]

theorem k9 : Keyed Tryz.prog 9 := string_keyed Tryz.underlying9
theorem key9 {s : ByteArray} (h : s.size ≤ maxLen) : keyOf Tryz.prog 9 (.string s) = some (.string s.data.toList) := WideMaps.keyOf_string_mk Tryz.underlying9 h

theorem SMapAt.own {w : World} {b : Nat} {l : List (Bts × Value)} (h : SMapAt w b l) : w.ownsMap Tryz.prog 9 MR b l.length (smapD l) := by
  obtain ⟨n, es, clock, hb, F, hs, hD⟩ := h
  refine ⟨es, clock, hb, F, ?_, hD⟩
  have h1 := congrArg Maps.size hD
  rw [smapD_size] at h1
  rw [h1, Maps.size_eq, length_sorted]
  simp
theorem SMapAt.made (w : World) : SMapAt (w.alloc (.map #[] 0)) w.heap.size [] := ⟨0, World.ownsMap_made w _ _ _⟩
theorem SMapAt.lt {w : World} {b : Nat} {l : List (Bts × Value)} (h : SMapAt w b l) : b < w.heap.size := by obtain ⟨n, h⟩ := h; exact h.lt
theorem SMapAt.map {w : World} {b : Nat} {l : List (Bts × Value)} (h : SMapAt w b l) : ∃ es c, w.heap[b]? = some (.map es c) := by
  obtain ⟨n, es, clock, hb, _⟩ := h; exact ⟨es, clock, hb⟩
theorem SMapAt.ext {S : List Nat} {w w' : World} {b : Nat} {l : List (Bts × Value)} (h : SMapAt w b l) (he : Ext S w w') (hS : b ∉ S) : SMapAt w' b l := by
  have hl := h.lt
  obtain ⟨n, es, clock, hb, F, hs, hD⟩ := h
  exact ⟨n, es, clock, (he.same b hl hS).trans hb, F, hs, hD⟩
theorem SMapAt.rising {w : World} {b : Nat} {l : List (Bts × Value)} (h : SMapAt w b l) : (l.map (·.1)).Pairwise (fun x y => bytesBefore x y = true) := by
  obtain ⟨n, h⟩ := h
  obtain ⟨es, he, hp, hk⟩ := h.canon k9
  simp only [smapD, DataW.map.injEq] at he
  subst he
  rw [List.pairwise_map] at hp ⊢
  exact hp.imp fun {a b} hab => by simpa [slit, Lit.before] using hab
theorem SMapAt.lookup {w : World} {b : Nat} {l : List (Bts × Value)} (h : SMapAt w b l) {t e : TypeId} (ht : Tryz.prog.underlying t = some (.map 9 e)) {z : Value} (hz : ∀ w, (zeroValue e).run Tryz.prog w = .ok z w) {s : ByteArray} (hk : s.size ≤ maxLen) :
    (Instr.lookup t (.map (some b)) (.string s) false).run Tryz.prog w = .ok ((sget l s.data.toList).getD z) w := by
  obtain ⟨v, ps, hrun, hv⟩ := h.own.lookup (t := t) k9 ht (hz w) (zd := .held z) (zp := []) rfl (key9 hk)
  rw [smapD_get] at hv
  simp at hv
  rw [hrun, hv.1]
theorem SMapAt.update {w : World} {b : Nat} {l : List (Bts × Value)} (h : SMapAt w b l) {t e : TypeId} (ht : Tryz.prog.underlying t = some (.map 9 e)) (hn : l.length < maxLen) {s : ByteArray} (hk : s.size ≤ maxLen) (v : Value) :
    ∃ w', (Instr.mapUpdate t (.map (some b)) (.string s) v).run Tryz.prog w = .ok () w' ∧ SMapAt w' b (sput l s.data.toList v) ∧ Ext [b] w w' ∧ w.mapTurned w' b := by
  obtain ⟨w', hrun, h1, h2⟩ := h.own.store (t := t) k9 ht hn (key9 hk) (d := .held v) (ps := []) rfl
  rw [smapD_put] at h1
  exact ⟨w', hrun, ⟨_, h1⟩, (Ext.refl _ w).grown h2.grown (fun k hk => by cases hk; simp), h2⟩
theorem SMapAt.delete {w : World} {b : Nat} {l : List (Bts × Value)} (h : SMapAt w b l) {t e : TypeId} (ht : Tryz.prog.underlying t = some (.map 9 e)) {s : ByteArray} (hk : s.size ≤ maxLen) (ty : TypeId) :
    ∃ w', (Builtin.delete_ #[t, 9] ty #[.map (some b), .string s]).run Tryz.prog w = .ok (.tuple #[]) w' ∧ SMapAt w' b (sdel l s.data.toList) ∧ Ext [b] w w' ∧ w.mapTurned w' b := by
  obtain ⟨w', hrun, h1, h2⟩ := h.own.drop (t := t) k9 ht (key9 hk) ty
  rw [smapD_del] at h1
  exact ⟨w', hrun, ⟨_, h1⟩, (Ext.refl _ w).grown h2.grown (fun k hk => by cases hk; simp), h2⟩
end Go.Proofs.YtegcnimekfanaaaGreat
