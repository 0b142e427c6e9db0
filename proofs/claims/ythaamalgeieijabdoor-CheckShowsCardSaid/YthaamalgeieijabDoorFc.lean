/- How a book is shown as tokens, in plain Lean. No condition. -/
import Derived.Test.YthaamalgeieijabDoorFb
import Derived.Test.YthaamalgeieijabDoorPg
set_option linter.unusedVariables false
set_option linter.unusedSimpArgs false
namespace Go.Proofs.YthaamalgeieijabDoor
open Go

structure Tok where
  kind : Int
  text : ByteArray
  int : Int
def Tok.toV (t : Tok) : Value := .agg #[.int .i64 t.kind, .string t.text, .int .i64 t.int]
theorem Tok.size3 (t : Tok) : t.toV.cells.size = 3 := rfl
theorem Tok.one (t : Tok) : ∀ u ∈ t.toV.cells.toList, u.oneCell' = true := by
  intro u hu
  simp [Tok.toV, Value.cells] at hu
  rcases hu with rfl | rfl | rfl <;> rfl
def word (s : ByteArray) : Tok := ⟨if 97 ≤ byteAt s 0 ∧ byteAt s 0 ≤ 122 then 1 else 4, s, 0⟩
def numTok (n : Int) : Tok := ⟨2, emptyS, n⟩
def numT (n : Int) : List Tok := if n < 0 then [word (ByteArray.mk #[45]), numTok (-n)] else [numTok n]
theorem numT_pos' {n : Int} (h : 0 ≤ n) : numT n = [numTok n] := by rw [numT, if_neg (by omega)]
def sideT (o : Opd) : List Tok := if o.kind = 3 then [word o.var, word (ByteArray.mk #[46]), word o.field] else if o.kind = 2 then [word o.field] else if o.v.kind = 1 then numT o.v.int else [⟨3, o.v.text, 0⟩]
def cmpW (kind : Int) : ByteArray := if kind = 4 then (ByteArray.mk #[61]) else if kind = 5 then (ByteArray.mk #[47, 61]) else if kind = 6 then (ByteArray.mk #[60]) else (ByteArray.mk #[60, 61])
def brT (b : Bool) (l : List Tok) : List Tok := if b = true then [word (ByteArray.mk #[40])] ++ l ++ [word (ByteArray.mk #[41])] else l
mutual
def condT : Cnd → List Tok
  | .mk kind _ subs _ l r => if kind = 3 then word (ByteArray.mk #[110, 111, 116]) :: (match subs with
      | [] => []
      | x :: _ => brT (decide (x.kind ≤ 2)) (condT x)) else
    if kind = 1 ∨ kind = 2 then subsT kind true subs else sideT l ++ [word (cmpW kind)] ++ sideT r
def subsT (kind : Int) : Bool → List Cnd → List Tok
  | _, [] => []
  | first, x :: l => (if first = true then [] else [word (if kind = 1 then (ByteArray.mk #[97, 110, 100]) else (ByteArray.mk #[111, 114]))]) ++ brT (decide (x.kind = kind ∨ x.kind = 2)) (condT x) ++ subsT kind false l
end
def patT (p : Pat) : List Tok := [word p.var, word (ByteArray.mk #[58]), word p.type] ++ if p.whr.kind ≠ 0 then [word (ByteArray.mk #[91])] ++ condT p.whr ++ [word (ByteArray.mk #[93])] else []
def optT (o : Opt) : List Tok := [word (relW.getD o.rel.toNat emptyS)] ++ if o.low = 0 ∧ o.high < 0 then [] else [word (ByteArray.mk #[40])] ++ numT o.low ++ [word (ByteArray.mk #[44])] ++ (if o.high < 0 then [word (ByteArray.mk #[97, 110, 121])] else numT o.high) ++ [word (ByteArray.mk #[41])]
def whenT (p : Pat) : List Tok := [word (ByteArray.mk #[119, 104, 101, 110])] ++ patT p ++ (if p.window = 1 then [word (ByteArray.mk #[111, 118, 101, 114]), word (ByteArray.mk #[116, 105, 109, 101])] ++ numT p.n else if p.window = 2 then [word (ByteArray.mk #[111, 118, 101, 114]), word (ByteArray.mk #[108, 97, 115, 116])] ++ numT p.n else []) ++ [word (ByteArray.mk #[59])]
def notT (p : Pat) : List Tok := [word (ByteArray.mk #[110, 111, 116])] ++ patT p ++ [word (ByteArray.mk #[59])]
def manyT (m : Mny) : List Tok := [word (ByteArray.mk #[109, 97, 110, 121])] ++ numT m.count ++ (if m.field ≠ emptyS then [word (ByteArray.mk #[111, 102]), word m.field] else []) ++ patT m.pat ++ [word (ByteArray.mk #[119, 105, 116, 104, 105, 110])] ++ numT m.pat.n ++ [word (ByteArray.mk #[59])]
def optsT : Bool → List Opt → List Tok
  | _, [] => []
  | first, o :: l => (if first = true then [] else [word (ByteArray.mk #[111, 114])]) ++ optT o ++ optsT false l
def linkT (k : Lnk) : List Tok := [word (ByteArray.mk #[119, 104, 101, 114, 101]), word k.left] ++ optsT true k.opts ++ [word k.right, word (ByteArray.mk #[59])]
def evalsT : Bool → List Opd → List Tok
  | _, [] => []
  | first, o :: l => (if first = true then [] else [word (ByteArray.mk #[44])]) ++ sideT o ++ evalsT false l
def emitT (x : Rul) : List Tok := if x.etype ≠ emptyS then [word (ByteArray.mk #[101, 109, 105, 116]), word x.etype, word (ByteArray.mk #[40])] ++ evalsT true x.evals ++ [word (ByteArray.mk #[41]), word (ByteArray.mk #[59])] else []
def ruleT (x : Rul) : List Tok := [word (ByteArray.mk #[114, 117, 108, 101]), word x.name, word (ByteArray.mk #[123])] ++ x.whens.flatMap whenT ++ x.nots.flatMap notT ++ x.manies.flatMap manyT ++ x.links.flatMap linkT ++ emitT x ++ [word (ByteArray.mk #[125])]
def kindW (k : Int) : ByteArray := if k = 2 then (ByteArray.mk #[116, 101, 120, 116]) else (ByteArray.mk #[105, 110, 116])
def fldsT : Bool → List Fld → List Tok
  | _, [] => []
  | first, f :: l => (if first = true then [] else [word (ByteArray.mk #[44])]) ++ [word f.name, word (ByteArray.mk #[58]), word (kindW f.kind)] ++ fldsT false l
def typeT (t : Typ) : List Tok := [word (ByteArray.mk #[116, 121, 112, 101]), word t.name, word (ByteArray.mk #[123])] ++ fldsT true t.fields ++ [word (ByteArray.mk #[125])]
def bookT (b : Bok) : List Tok := b.types.flatMap typeT ++ b.rules.flatMap ruleT
theorem condT_eq (c : Cnd) : condT c = if c.kind = 3 then word (ByteArray.mk #[110, 111, 116]) :: (match c.subs with
      | [] => []
      | x :: _ => brT (decide (x.kind ≤ 2)) (condT x)) else
    if c.kind = 1 ∨ c.kind = 2 then subsT c.kind true c.subs else sideT c.l ++ [word (cmpW c.kind)] ++ sideT c.r := by
  cases c
  rw [condT.eq_def]
  rfl
theorem subsT_cons {kind : Int} {first : Bool} {x : Cnd} {l : List Cnd} : subsT kind first (x :: l) = (if first = true then [] else [word (if kind = 1 then (ByteArray.mk #[97, 110, 100]) else (ByteArray.mk #[111, 114]))]) ++ brT (decide (x.kind = kind ∨ x.kind = 2)) (condT x) ++ subsT kind false l := by rw [subsT]
/-! ### What may be shown -/
def Opd.Fine (o : Opd) : Prop := (o.kind = 1 ∧ valF o.v = 0) ∨ (o.kind = 2 ∧ nameF o.field = 0) ∨ (o.kind = 3 ∧ nameF o.var = 0 ∧ nameF o.field = 0)
inductive Cnd.Fine : Cnd → Prop where
  | cmp {c : Cnd} (h : 4 ≤ c.kind) (h7 : c.kind ≤ 7) (l : c.l.Fine) (r : c.r.Fine) : Cnd.Fine c
  | not {c : Cnd} {x : Cnd} (h : c.kind = 3) (hs : c.subs = [x]) (hx : x.Fine) : Cnd.Fine c
  | many {c : Cnd} (h : c.kind = 1 ∨ c.kind = 2) (hs : ∀ x ∈ c.subs, x.Fine) : Cnd.Fine c
def Pat.Fine (p : Pat) : Prop := nameF p.var = 0 ∧ nameF p.type = 0 ∧ (p.whr.kind = 0 ∨ (p.whr.kind ≠ 0 ∧ p.whr.Fine)) ∧ 0 ≤ p.n ∧ (p.window = 0 ∨ p.window = 1 ∨ p.window = 2)
def Mny.Fine (m : Mny) : Prop := m.pat.Fine ∧ (m.field = emptyS ∨ nameF m.field = 0) ∧ 0 ≤ m.count
def Opt.Fine (o : Opt) : Prop := 1 ≤ o.rel ∧ o.rel ≤ 13 ∧ 0 ≤ o.low
def Lnk.Fine (k : Lnk) : Prop := nameF k.left = 0 ∧ nameF k.right = 0 ∧ ∀ o ∈ k.opts, o.Fine
structure Rul.Fine (x : Rul) : Prop where
  name : nameF x.name = 0
  whens : ∀ p ∈ x.whens, p.Fine
  nots : ∀ p ∈ x.nots, p.Fine
  manies : ∀ m ∈ x.manies, m.Fine
  links : ∀ k ∈ x.links, k.Fine
  etype : x.etype = emptyS ∨ nameF x.etype = 0
  evals : x.etype ≠ emptyS → ∀ o ∈ x.evals, o.Fine
def Typ.Fine (t : Typ) : Prop := nameF t.name = 0 ∧ ∀ f ∈ t.fields, nameF f.name = 0 ∧ (f.kind = 1 ∨ f.kind = 2)
structure Bok.Fine (b : Bok) : Prop where
  types : ∀ t ∈ b.types, t.Fine
  rules : ∀ x ∈ b.rules, x.Fine
/-! ### A text cut at its blanks -/
def spl : List UInt8 → List UInt8 → List Tok
  | cur, [] => if cur = [] then [] else [word ⟨cur.toArray⟩]
  | cur, c :: l => if c ≠ 32 then spl (cur ++ [c]) l else (if cur = [] then [] else [word ⟨cur.toArray⟩]) ++ spl [] l
def spokenF (s : ByteArray) : List Tok := spl [] s.data.toList
theorem spl_word : ∀ (w cur rest : List UInt8), (∀ c ∈ w, c ≠ 32) → spl cur (w ++ rest) = spl (cur ++ w) rest
  | [], cur, rest, _ => by simp
  | c :: w, cur, rest, h => by
    rw [List.cons_append, spl, if_pos (h c (by simp)), spl_word w _ rest (fun d hd => h d (List.mem_cons_of_mem _ hd))]
    simp
/-- Letters and digits. -/
theorem name_chars {s : ByteArray} (h : nameF s = 0) : (∀ c ∈ s.data.toList, c ≠ 32) ∧ s.data.toList ≠ [] ∧ 1 ≤ s.size ∧ s.size ≤ 10 := by
  unfold nameF at h
  split at h
  · cases h
  rename_i h1
  split at h
  · rename_i h2
    refine ⟨fun c hc => ?_, ?_, by omega, by omega⟩
    · obtain ⟨i, hi, rfl⟩ := List.getElem_of_mem hc
      have hi' : i < s.size := by simpa using hi
      have := h2 i hi'
      intro h32
      have hb : byteAt s i = 32 := by
        unfold byteAt
        rw [dif_pos hi']
        have e : s[i] = s.data.toList[i] := rfl
        rw [e, h32]; rfl
      simp [okB, hb] at this
    · intro hn
      have : s.data.toList.length = 0 := by rw [hn]; rfl
      have h3 : s.size = s.data.toList.length := by simp
      omega
  · cases h
theorem mk_toList (s : ByteArray) : (⟨s.data.toList.toArray⟩ : ByteArray) = s := by cases s; simp
theorem spoken_name {s : ByteArray} (h : nameF s = 0) : spokenF s = [word s] := by
  obtain ⟨h1, h2, _⟩ := name_chars h
  have := spl_word s.data.toList [] [] h1
  rw [List.append_nil, List.nil_append] at this
  rw [spokenF, this, spl, if_neg h2, mk_toList]
theorem spl_name {s : ByteArray} (h : nameF s = 0) (rest : List UInt8) : spl [] (s.data.toList ++ 32 :: rest) = word s :: spl [] rest := by
  obtain ⟨h1, h2, _⟩ := name_chars h
  rw [spl_word _ _ _ h1, List.nil_append, spl, if_neg (by simp), if_neg h2, mk_toList]
  rfl
theorem spl_name0 {s : ByteArray} (h : nameF s = 0) : spl [] s.data.toList = [word s] := spoken_name h
theorem freeF_name {s : ByteArray} (h : freeF s = 0) : nameF s = 0 := by
  unfold freeF at h
  split at h
  · rename_i h1; exact absurd h h1
  · rename_i h1; omega
end Go.Proofs.YthaamalgeieijabDoor
