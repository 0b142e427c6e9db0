/- What the checks of patterns, conditions, links and rules answer, in plain Lean. No condition. -/
import Derived.Test.YthaamalgeieijabDoorFa
set_option linter.unusedVariables false
set_option linter.unusedSimpArgs false
namespace Go.Proofs.YthaamalgeieijabDoor
open Go

def Vl.Zero (v : Vl) : Prop := v.kind = 0 ∧ v.int = 0 ∧ v.text = emptyS
def Opd.Zero (o : Opd) : Prop := o.kind = 0 ∧ o.v.Zero ∧ o.var = emptyS ∧ o.field = emptyS
instance (v : Vl) : Decidable v.Zero := by unfold Vl.Zero; infer_instance
instance (o : Opd) : Decidable o.Zero := by unfold Opd.Zero; infer_instance
def Cnd.Empty (c : Cnd) : Prop := c.kind = 0 ∧ c.subs.length = 0 ∧ c.l.Zero ∧ c.r.Zero
instance (c : Cnd) : Decidable c.Empty := by unfold Cnd.Empty; infer_instance
def typedF (types : List Typ) (s : ByteArray) : Option Typ := types.find? fun t => decide (t.name = s)
abbrev Envs := ByteArray → Option Typ
/-- A side of a comparison: its kind; what it is refused for. -/
def sideF (env : Envs) (own : Typ) (o : Opd) : Int × Int :=
  if o.kind < 1 ∨ 3 < o.kind then (0, 3) else
  if o.kind = 3 ∧ env o.var = none then (0, 6) else
  if (o.kind ≠ 3 ∧ o.var ≠ emptyS) ∨ (o.kind = 1 ∧ o.field ≠ emptyS) ∨ (o.kind ≠ 1 ∧ ¬ o.v.Zero) then (0, 4) else
  if o.kind = 1 then (o.v.kind, valF o.v) else
  if o.kind = 3 then kindF ((env o.var).getD own) o.field else kindF own o.field
def testF (env : Envs) (own : Typ) (l r : Opd) : Int :=
  if (sideF env own l).2 ≠ 0 then (sideF env own l).2 else
  if (sideF env own r).2 ≠ 0 then (sideF env own r).2 else
  if (sideF env own l).1 ≠ (sideF env own r).1 then 13 else 0
mutual
/-- A condition at a depth: how many comparisons it has; what it is refused for. -/
def condF (env : Envs) (own : Typ) (depth : Int) : Cnd → Int × Int
  | .mk kind _ subs _ l r =>
    if kind < 1 ∨ 7 < kind then (0, 3) else
    if 8 < depth then (0, 14) else
    if 4 ≤ kind then (if 0 < subs.length then (0, 4) else if testF env own l r ≠ 0 then (0, testF env own l r) else (1, 0)) else
    if ¬ l.Zero ∨ ¬ r.Zero ∨ (kind = 3 ∧ subs.length ≠ 1) ∨ (kind ≠ 3 ∧ subs.length < 2) then (0, 4) else
    condsF env own (depth + 1) 0 subs
def condsF (env : Envs) (own : Typ) (depth : Int) (n : Int) : List Cnd → Int × Int
  | [] => (n, 0)
  | c :: l =>
    if (condF env own depth c).2 ≠ 0 then (0, (condF env own depth c).2) else
    if 12 < n + (condF env own depth c).1 then (0, 1) else
    condsF env own depth (n + (condF env own depth c).1) l
end
mutual
theorem condF_le (env : Envs) (own : Typ) (depth : Int) : ∀ c : Cnd, 0 ≤ (condF env own depth c).1 ∧ (condF env own depth c).1 ≤ 12
  | .mk kind _ subs _ l r => by
    unfold condF
    repeat' split
    all_goals first | omega | exact condsF_le env own (depth + 1) 0 (by omega) (by omega) subs
theorem condsF_le (env : Envs) (own : Typ) (depth : Int) (n : Int) (h0 : 0 ≤ n) (h12 : n ≤ 12) : ∀ l : List Cnd, 0 ≤ (condsF env own depth n l).1 ∧ (condsF env own depth n l).1 ≤ 12
  | [] => by simp [condsF, h0, h12]
  | c :: l => by
    unfold condsF
    have := condF_le env own depth c
    repeat' split
    all_goals first | omega | exact condsF_le env own depth _ (by omega) (by omega) l
end
/-- A window: one of these kinds. -/
def windF (kinds : List Int) (p : Pat) : Int :=
  if p.window ∉ kinds ∨ (p.window = 0 ∧ p.n ≠ 0) then 4 else
  if (p.window = 1 ∧ (p.n < 0 ∨ 1073741824 < p.n)) ∨ (p.window = 2 ∧ (p.n < 1 ∨ 120 < p.n)) then 2 else 0
/-- A pattern: what it is refused for. -/
def patF (types : List Typ) (env : Envs) (taken : List ByteArray) (kinds : List Int) (p : Pat) : Int :=
  if freeF p.var ≠ 0 then freeF p.var else
  if taken.any (fun u => decide (u = p.var)) = true then 7 else
  match typedF types p.type with
  | none => 6
  | some t => if windF kinds p ≠ 0 then windF kinds p else if p.whr.Empty then 0 else (condF env t 1 p.whr).2
def inF (l : List Pat) (s : ByteArray) : Bool := l.any fun p => decide (p.var = s)
def optsF : List Opt → Int
  | [] => 0
  | o :: l => if optF o ≠ 0 then optF o else optsF l
def linkF (x : Rul) (k : Lnk) : Int :=
  if (inF x.whens k.left = false ∧ inF x.nots k.left = false) ∨ (inF x.whens k.right = false ∧ inF x.nots k.right = false) then 6 else
  if k.left = k.right ∨ (inF x.nots k.left = true ∧ inF x.nots k.right = true) then 4 else
  if k.opts.length < 1 ∨ 6 < k.opts.length then 1 else optsF k.opts
def sumF (t : Typ) (s : ByteArray) : Int := if (kindF t s).2 = 0 ∧ (kindF t s).1 ≠ 1 then 13 else (kindF t s).2
def evalsF (env : Envs) (t : Typ) : List Fld → List Opd → Int
  | f :: fs, o :: os => if o.kind = 2 then 4 else if (sideF env t o).2 ≠ 0 then (sideF env t o).2 else if (sideF env t o).1 ≠ f.kind then 13 else evalsF env t fs os
  | _, _ => 0
def emitF (types : List Typ) (env : Envs) (x : Rul) : Int :=
  if x.etype = emptyS then (if 0 < x.evals.length then 4 else 0) else
  match typedF types x.etype with
  | none => 6
  | some t => if x.evals.length ≠ t.fields.length then 13 else evalsF env t t.fields x.evals
/-- What is known of whens. -/
def envF (types : List Typ) (ws : List Pat) : Envs := fun s => (ws.find? fun p => decide (p.var = s)).bind fun p => typedF types p.type
def whensF (types : List Typ) : List Pat → List Pat → Int
  | _, [] => 0
  | pre, p :: l => if patF types (envF types pre) (pre.map (·.var)) [0, 1, 2] p ≠ 0 then patF types (envF types pre) (pre.map (·.var)) [0, 1, 2] p else whensF types (pre ++ [p]) l
def notsF (types : List Typ) (env : Envs) : List ByteArray → List Pat → Int
  | _, [] => 0
  | taken, p :: l => if patF types env taken [0] p ≠ 0 then patF types env taken [0] p else notsF types env (taken ++ [p.var]) l
def manyF (types : List Typ) (env : Envs) (taken : List ByteArray) (m : Mny) : Int :=
  if (m.field = emptyS ∧ (m.count < 1 ∨ 120 < m.count)) ∨ m.count < 0 ∨ 1125899906842624 < m.count then 2 else
  if patF types env taken [1] m.pat ≠ 0 then patF types env taken [1] m.pat else
  if m.field = emptyS then 0 else match typedF types m.pat.type with
    | none => 6
    | some t => sumF t m.field
def maniesF (types : List Typ) (env : Envs) : List ByteArray → List Mny → Int
  | _, [] => 0
  | taken, m :: l => if manyF types env taken m ≠ 0 then manyF types env taken m else maniesF types env (taken ++ [m.pat.var]) l
def linksF (x : Rul) : List Lnk → Int
  | [] => 0
  | k :: l => if linkF x k ≠ 0 then linkF x k else linksF x l
def ruleF (types : List Typ) (x : Rul) : Int :=
  if freeF x.name ≠ 0 then freeF x.name else
  if x.whens.length < 1 ∨ 3 < x.whens.length ∨ 2 < x.nots.length ∨ 2 < x.manies.length ∨ 6 < x.links.length then 1 else
  if whensF types [] x.whens ≠ 0 then whensF types [] x.whens else
  if notsF types (envF types x.whens) (x.whens.map (·.var)) x.nots ≠ 0 then notsF types (envF types x.whens) (x.whens.map (·.var)) x.nots else
  if maniesF types (envF types x.whens) (x.whens.map (·.var) ++ x.nots.map (·.var)) x.manies ≠ 0 then maniesF types (envF types x.whens) (x.whens.map (·.var) ++ x.nots.map (·.var)) x.manies else
  if linksF x x.links ≠ 0 then linksF x x.links else emitF types (envF types x.whens) x
def usesF (x : Rul) (s : ByteArray) : Bool := x.whens.any (fun p => decide (p.type = s)) || x.nots.any (fun p => decide (p.type = s)) || x.manies.any (fun m => decide (m.pat.type = s))
/-- Does an event of a type come of one of another type, by so many rules at most? -/
def comesF (rules : List Rul) (to : ByteArray) : Nat → ByteArray → Bool
  | 0, _ => false
  | n + 1, from_ => rules.any fun x => decide (x.etype ≠ emptyS) && usesF x from_ && (decide (x.etype = to) || comesF rules to n x.etype)
def typesF : List Typ → List Typ → Int
  | _, [] => 0
  | pre, t :: l => if typeF t ≠ 0 then typeF t else if keptF t.name = true ∨ t.fields.any (fun f => keptF f.name) = true then 4 else if pre.any (fun u => decide (u.name = t.name)) = true then 7 else typesF (pre ++ [t]) l
def rulesF (types : List Typ) : List Rul → List Rul → Int
  | _, [] => 0
  | pre, x :: l => if ruleF types x ≠ 0 then ruleF types x else if pre.any (fun y => decide (y.name = x.name)) = true then 7 else rulesF types (pre ++ [x]) l
def bookF (b : Bok) : Int :=
  if 6 < b.types.length ∨ 5 < b.rules.length then 1 else
  if typesF [] b.types ≠ 0 then typesF [] b.types else
  if rulesF b.types [] b.rules ≠ 0 then rulesF b.types [] b.rules else
  if b.types.any (fun t => comesF b.rules t.name b.rules.length t.name) = true then 15 else 0
end Go.Proofs.YthaamalgeieijabDoor
