/- What the small functions answer, in plain Lean, with no program in sight. No condition. -/
import Derived.Test.YthaamalgeieijabDoorDa
set_option linter.unusedVariables false
set_option linter.unusedSimpArgs false
namespace Go.Proofs.YthaamalgeieijabDoor
open Go

abbrev emptyS : ByteArray := ByteArray.mk #[]
/-- The place of the first one, counted from j on; -1: there is none. -/
def idxF {α : Type} (p : α → Bool) : Nat → List α → Int
  | _, [] => -1
  | j, x :: l => if p x = true then j else idxF p (j + 1) l
theorem drop_step {α : Type} {l : List α} {j : Nat} (h : j < l.length) : l.drop j = l[j] :: l.drop (j + 1) := List.drop_eq_getElem_cons h
theorem drop_end {α : Type} {l : List α} {j : Nat} (h : ¬ j < l.length) : l.drop j = [] := List.drop_eq_nil_of_le (by omega)
theorem take_step {α : Type} {l : List α} {j : Nat} (h : j < l.length) : l.take (j + 1) = l.take j ++ [l[j]] := by
  rw [List.take_add_one, List.getElem?_eq_getElem h]; rfl
theorem idxF_any {α : Type} {p : α → Bool} : ∀ {l : List α} {j : Nat}, decide (0 ≤ idxF p j l) = l.any p
  | [], j => by simp [idxF]
  | x :: l, j => by
    simp only [idxF, List.any_cons]
    split
    · rename_i h; simp [h]
    · rename_i h; rw [idxF_any]; simp [h]
theorem idxF_neg {α : Type} {p : α → Bool} {l : List α} {j : Nat} : idxF p j l < 0 ↔ l.any p = false := by
  rw [← idxF_any (j := j)]; simp
theorem idxF_find {α : Type} {p : α → Bool} : ∀ {l : List α} {j : Nat}, (idxF p j l < 0 ∧ l.find? p = none) ∨ ∃ i, ∃ h : i < l.length, idxF p j l = ((j + i : Nat) : Int) ∧ p l[i] = true ∧ l.find? p = some l[i]
  | [], j => .inl ⟨by simp [idxF], rfl⟩
  | x :: l, j => by
    simp only [idxF]
    split
    · rename_i h; exact .inr ⟨0, by simp, by simp, h, by simp [h]⟩
    · rename_i h
      rcases idxF_find (p := p) (l := l) (j := j + 1) with ⟨h1, h2⟩ | ⟨i, hi, h1, h2, h3⟩
      · exact .inl ⟨h1, by simp [h, h2]⟩
      · exact .inr ⟨i + 1, by simpa using hi, by rw [h1]; congr 1; omega, by simpa using h2, by simpa [h] using h3⟩
def okB (s : ByteArray) (i : Nat) : Bool := decide (97 ≤ byteAt s i ∧ byteAt s i ≤ 122) || decide (i ≠ 0 ∧ 48 ≤ byteAt s i ∧ byteAt s i ≤ 57)
def nameF (s : ByteArray) : Int := if s.size < 1 ∨ 10 < s.size then 1 else if ∀ i, i < s.size → okB s i = true then 0 else 4
theorem wrap_byte (s : ByteArray) (i : Nat) : IntKind.i64.wrap (byteAt s i : Int) = (byteAt s i : Int) := wrap_i64_in ⟨by omega, by have := byteAt_le s i; omega⟩
def fldsF (pre : List Fld) : List Fld → Int
  | [] => 0
  | f :: l => if nameF f.name ≠ 0 then nameF f.name else if f.kind ≠ 1 ∧ f.kind ≠ 2 then 3 else if pre.any (fun g => decide (g.name = f.name)) = true then 7 else fldsF (pre ++ [f]) l
def typeF (t : Typ) : Int := if nameF t.name ≠ 0 then nameF t.name else if 4 < t.fields.length then 1 else fldsF [] t.fields
def valF (v : Vl) : Int := if v.kind ≠ 1 ∧ v.kind ≠ 2 then 3 else if v.kind = 1 ∧ v.text ≠ emptyS ∨ v.kind = 2 ∧ v.int ≠ 0 then 4 else if 20 < v.text.size then 1 else
  if v.int < -1125899906842624 ∨ 1125899906842624 < v.int then 2 else 0
def optF (o : Opt) : Int := if o.rel < 1 ∨ 13 < o.rel then 3 else if o.low < 0 ∨ 1073741824 < o.low ∨ o.high < -1 ∨ 1073741824 < o.high then 2 else if 0 ≤ o.high ∧ o.high < o.low then 11 else 0
/-- A field of a type: its place and kind. -/
def fieldsAt : Nat → List Fld → ByteArray → Int × Int × Int
  | _, [], _ => (0, 0, 6)
  | j, f :: l, s => if f.name = s then (j, f.kind, 0) else fieldsAt (j + 1) l s
def fieldF (t : Typ) (s : ByteArray) : Int × Int × Int := if typeF t ≠ 0 then (0, 0, typeF t) else fieldsAt 0 t.fields s
def kindF (t : Typ) (s : ByteArray) : Int × Int := (fieldsAt 0 t.fields s).2
def keptW : List ByteArray := [ByteArray.mk #[97, 110, 100], ByteArray.mk #[97, 110, 121], ByteArray.mk #[101, 109, 105, 116], ByteArray.mk #[105, 110, 116], ByteArray.mk #[108, 97, 115, 116], ByteArray.mk #[109, 97, 110, 121], ByteArray.mk #[110, 111, 116], ByteArray.mk #[111, 102], ByteArray.mk #[111, 114], ByteArray.mk #[111, 118, 101, 114], ByteArray.mk #[114, 117, 108, 101], ByteArray.mk #[116, 101, 120, 116], ByteArray.mk #[116, 105, 109, 101], ByteArray.mk #[116, 121, 112, 101], ByteArray.mk #[119, 104, 101, 110], ByteArray.mk #[119, 104, 101, 114, 101], ByteArray.mk #[119, 105, 116, 104, 105, 110]]
def relW1 : List ByteArray := [ByteArray.mk #[98, 101, 102, 111, 114, 101], ByteArray.mk #[97, 102, 116, 101, 114], ByteArray.mk #[109, 101, 101, 116, 115], ByteArray.mk #[109, 101, 116, 98, 121], ByteArray.mk #[111, 118, 101, 114, 108, 97, 112, 115], ByteArray.mk #[111, 118, 101, 114, 108, 97, 112, 112, 101, 100], ByteArray.mk #[115, 116, 97, 114, 116, 115], ByteArray.mk #[115, 116, 97, 114, 116, 101, 100, 98, 121], ByteArray.mk #[100, 117, 114, 105, 110, 103], ByteArray.mk #[99, 111, 110, 116, 97, 105, 110, 115], ByteArray.mk #[102, 105, 110, 105, 115, 104, 101, 115], ByteArray.mk #[102, 105, 110, 105, 115, 104, 101, 100, 98, 121], ByteArray.mk #[101, 113, 117, 97, 108, 115]]
def relW : List ByteArray := emptyS :: relW1
theorem relW1_empty : relW1.any (fun x => decide (x = emptyS)) = false := by decide
def keptF (s : ByteArray) : Bool := keptW.any (fun x => decide (x = s)) || relW1.any (fun x => decide (x = s))
def freeF (s : ByteArray) : Int := if nameF s ≠ 0 then nameF s else if keptF s = true then 4 else 0
/-- A row of strings that is a whole block. -/
theorem Row.strs {M : Mem} {n : Nat} {xs : List ByteArray} {t : TypeId} {f : Nat × Nat} (h : M n = some (.cells (xs.map Value.string).toArray t f)) (hl : xs.length ≤ maxLen) : Row M Value.string 1 (some ⟨n, 0, none⟩) xs.length xs :=
  ⟨Nat.le_refl _, hl, fun i hi => ⟨_, rfl, fun j u hu => by
    have hj : j = 0 := by
      have := (Array.getElem?_eq_some_iff.1 hu).1
      simp [Value.cells] at this; omega
    subst hj
    simp [Value.cells] at hu
    subst hu
    rw [own_add]
    simp [mcell, h, hi]⟩⟩
/-- What the package's tables hold. -/
structure Tab (M : Mem) : Prop where
  kept : Row M Value.string 1 (some ⟨0, 0, none⟩) 17 keptW
  rels : Row M Value.string 1 (some ⟨1, 0, none⟩) 14 relW
  rel : Row M Value.string 1 (some ⟨2, 0, none⟩) 14 relW
theorem Tab.mono {M M' : Mem} (hM : M.le M') (h : Tab M) : Tab M' := ⟨h.kept.mono hM, h.rels.mono hM, h.rel.mono hM⟩
end Go.Proofs.YthaamalgeieijabDoor
