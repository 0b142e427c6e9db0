/- What a reading of an argument shows of memory: rows of whatever type, fields, in general. No program. -/
import Derived.Test.YthaamalgeieijabDoorDa
import Derived.ProofKit
set_option linter.unusedVariables false
set_option linter.unusedSimpArgs false
namespace Go.Proofs.YthaamalgeieijabDoor
open Go Go.RowKit

abbrev memOf (W : World) : Mem := fun k => W.heap[k]?
theorem mcell_of {W : World} {a : Addr} {u : Value} (h : W.cell? a = some u) : mcell (memOf W) a = some u := h
theorem addr_add_add (a : Addr) (i j : Nat) : (a.add i).add j = a.add (i + j) := by
  unfold Addr.add
  by_cases hi : i = 0 <;> by_cases hj : j = 0 <;> simp [hi, hj, Nat.add_assoc]
theorem list_of {α : Type} {p : Nat → α → Prop} : ∀ n, (∀ i, i < n → ∃ a, p i a) → ∃ xs : List α, xs.length = n ∧ ∀ i (h : i < xs.length), p i xs[i]
  | 0, _ => ⟨[], rfl, fun i h => absurd h (by simp)⟩
  | n + 1, h => by
    obtain ⟨xs, hl, hx⟩ := list_of n (fun i hi => h i (by omega))
    obtain ⟨a, ha⟩ := h n (by omega)
    refine ⟨xs ++ [a], by simp [hl], fun i hi => ?_⟩
    by_cases hk : i < xs.length
    · rw [List.getElem_append_left hk]; exact hx i hk
    · have : i = n := by simp at hi; omega
      subst this
      rw [List.getElem_append_right (by omega)]
      simpa [hl] using ha

section
variable {H : Type} {enc : TypeId × Value → H} {P : Program} {W : World}
/-- Whatever reads as type t by n steps or fewer is a datum laid out. -/
def Opens {α : Type} (enc : TypeId × Value → H) (P : Program) (W : World) (n : Nat) (t : TypeId) (toV : α → Value) (Ok : α → Prop) : Prop :=
  ∀ m, m ≤ n → ∀ cs x, DataW.trod enc P W 0 (fun _ => true) true m t cs = some x → ∃ a, cs = (toV a).cells.toList ∧ Ok a
theorem opens_row {α : Type} {n m : Nat} {t e : TypeId} {size : Nat} {toV : α → Value} {Ok : α → Prop} {cs : List Value} {x : DataW H × List MemPlace}
    (ht : P.underlying t = some (.slice e)) (hc : P.cellsOf e = size) (h : Opens enc P W n e toV Ok) (hm : m ≤ n + 1) (hx : DataW.trod enc P W 0 (fun _ => true) true m t cs = some x) :
    ∃ A xs c, cs = [.slice A (List.length xs) c] ∧ Row (memOf W) toV size A c xs ∧ ∀ y ∈ xs, Ok y := by
  rcases DataW.trod_slice ht hx with ⟨rfl, _⟩ | ⟨a, len, cap, elems, rest, k, rfl, rfl, _, _, hl, hmax, hlen, hel, _, _⟩
  · exact ⟨none, [], 0, rfl, ⟨by simp, by simp [maxLen], fun i hi => absurd hi (by simp)⟩, fun y hy => by cases hy⟩
  · obtain ⟨xs, hxl, hxs⟩ := list_of (p := fun i y => W.cells? 0 (a.add (i * P.cellsOf e)) (P.cellsOf e) = some (toV y).cells.toList ∧ Ok y) len (fun i hi => by
      have key := hel i hi
      rw [List.getElem?_eq_getElem (by omega)] at key
      obtain ⟨cs', h1, h2⟩ := Option.bind_eq_some_iff.1 key
      obtain ⟨y, rfl, hy⟩ := h k (by omega) _ _ h2
      exact ⟨y, h1, hy⟩)
    refine ⟨some a, xs, cap, by rw [hxl], ⟨by omega, hmax, fun i hi => ?_⟩, fun y hy => ?_⟩
    · obtain ⟨h1, _⟩ := hxs i hi
      obtain ⟨_, hsz, hcell⟩ := World.cells?_some h1
      refine ⟨a, rfl, fun j u hu => mcell_of ?_⟩
      have hj : j < P.cellsOf e := by
        rw [← hsz]
        have := (Array.getElem?_eq_some_iff.1 hu).1
        simpa using this
      have := hcell j hj
      rw [addr_add_add, hc] at this
      rw [this]
      simpa using hu
    · obtain ⟨i, hi, rfl⟩ := List.getElem_of_mem hy
      exact (hxs i hi).2
/-- A field of a struct type: its type, place, size. -/
def fldAt (P : Program) (t : TypeId) (i : Nat) : Option (TypeId × Nat × Nat) := match P.underlying t with
  | some (.struct fs) => (fs[i]?).map fun f => (f.type, f.offset, P.cellsOf f.type)
  | _ => none
theorem fldAt_struct {t : TypeId} {i : Nat} {x : TypeId × Nat × Nat} (h : fldAt P t i = some x) : ∃ fs, P.underlying t = some (.struct fs) := by
  unfold fldAt at h
  split at h
  · exact ⟨_, by assumption⟩
  · cases h
theorem trod_fld {m : Nat} {t u : TypeId} {i off sz : Nat} {cs : List Value} {x : DataW H × List MemPlace} (hf : fldAt P t i = some (u, off, sz)) (h : DataW.trod enc P W 0 (fun _ => true) true m t cs = some x) :
    ∃ k y, m = k + 1 ∧ cs.length = P.cellsOf t ∧ DataW.trod enc P W 0 (fun _ => true) true k u ((cs.drop off).take sz) = some y := by
  unfold fldAt at hf
  split at hf
  · rename_i fs hu
    obtain ⟨f, hf1, hf2⟩ := Option.map_eq_some_iff.1 hf
    simp only [Prod.mk.injEq] at hf2
    obtain ⟨rfl, rfl, rfl⟩ := hf2
    obtain ⟨xs, k, rfl, _, hl, hn, hel⟩ := DataW.trod_struct hu h
    have hi : i < fs.size := (Array.getElem?_eq_some_iff.1 hf1).1
    have := hel i f hf1
    rw [List.getElem?_eq_getElem (by omega)] at this
    exact ⟨k, _, rfl, hl, this⟩
  · cases hf
theorem fld_int {m : Nat} {t u : TypeId} {i off : Nat} {cs : List Value} {x : DataW H × List MemPlace} (hf : fldAt P t i = some (u, off, 1)) (hu : P.underlying u = some (.int .i64)) (h : DataW.trod enc P W 0 (fun _ => true) true m t cs = some x) :
    ∃ k, (cs.drop off).take 1 = [.int .i64 k] := by
  obtain ⟨k, y, _, _, hy⟩ := trod_fld hf h
  obtain ⟨n, hn, _⟩ := DataW.trod_int hu hy
  exact ⟨n, hn⟩
theorem fld_str {m : Nat} {t u : TypeId} {i off : Nat} {cs : List Value} {x : DataW H × List MemPlace} (hf : fldAt P t i = some (u, off, 1)) (hu : P.underlying u = some .string) (h : DataW.trod enc P W 0 (fun _ => true) true m t cs = some x) :
    ∃ s, (cs.drop off).take 1 = [.string s] := by
  obtain ⟨k, y, _, _, hy⟩ := trod_fld hf h
  obtain ⟨n, hn, _⟩ := DataW.trod_string hu hy
  exact ⟨n, hn⟩
theorem fld_row {α : Type} {n m : Nat} {t u e : TypeId} {i off size : Nat} {toV : α → Value} {Ok : α → Prop} {cs : List Value} {x : DataW H × List MemPlace}
    (hf : fldAt P t i = some (u, off, 1)) (hu : P.underlying u = some (.slice e)) (hc : P.cellsOf e = size) (ho : Opens enc P W n e toV Ok) (hm : m ≤ n + 2) (h : DataW.trod enc P W 0 (fun _ => true) true m t cs = some x) :
    ∃ A xs c, (cs.drop off).take 1 = [.slice A (List.length xs) c] ∧ Row (memOf W) toV size A c xs ∧ ∀ y ∈ xs, Ok y := by
  obtain ⟨k, y, rfl, _, hy⟩ := trod_fld hf h
  exact opens_row hu hc ho (by omega) hy
theorem fld_st {α : Type} {n m : Nat} {t u : TypeId} {i off sz : Nat} {toV : α → Value} {Ok : α → Prop} {cs : List Value} {x : DataW H × List MemPlace}
    (hf : fldAt P t i = some (u, off, sz)) (ho : Opens enc P W n u toV Ok) (hm : m ≤ n + 1) (h : DataW.trod enc P W 0 (fun _ => true) true m t cs = some x) :
    ∃ a, (cs.drop off).take sz = (toV a).cells.toList ∧ Ok a := by
  obtain ⟨k, y, rfl, _, hy⟩ := trod_fld hf h
  exact ho k (by omega) _ _ hy
theorem trod_len {m : Nat} {t u : TypeId} {i off sz N : Nat} {cs : List Value} {x : DataW H × List MemPlace} (hf : fldAt P t i = some (u, off, sz)) (hN : P.cellsOf t = N) (h : DataW.trod enc P W 0 (fun _ => true) true m t cs = some x) : cs.length = N := by
  obtain ⟨k, y, _, hl, _⟩ := trod_fld hf h
  rw [hl, hN]
theorem piece {cs p r : List Value} {a b : Nat} (h : (cs.drop a).take b = p) (hr : cs.drop (a + b) = r) : cs.drop a = p ++ r := by
  rw [← h, ← hr, ← List.drop_drop, List.take_append_drop]
theorem piece_end {cs : List Value} {a : Nat} (h : cs.length = a) : cs.drop a = [] := by simp [h]
/-- One type's cells are another type's, under another name. -/
theorem Opens.to {α : Type} {n : Nat} {t : TypeId} {toV : α → Value} {Ok Ok' : α → Prop} (h : Opens enc P W n t toV Ok) (hk : ∀ a, Ok a → Ok' a) : Opens enc P W n t toV Ok' := fun m hm cs x hx => by
  obtain ⟨a, h1, h2⟩ := h m hm cs x hx
  exact ⟨a, h1, hk a h2⟩
end
end Go.Proofs.YthaamalgeieijabDoor
