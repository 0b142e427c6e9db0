/- The program's data, as plain Lean data that bears the places of its slices; that memory holds it. No condition. -/
import Derived.Test.YthaamalgeieijabDoorPa
set_option linter.unusedVariables false
set_option linter.unusedSimpArgs false
namespace Go.Proofs.YthaamalgeieijabDoor
open Go

structure Fld where
  name : ByteArray
  kind : Int
def Fld.toV (f : Fld) : Value := .agg #[.string f.name, .int .i64 f.kind]
structure Typ where
  name : ByteArray
  fA : Option Addr
  fields : List Fld
  fc : Nat
def Typ.toV (t : Typ) : Value := .agg #[.string t.name, .slice t.fA t.fields.length t.fc]
structure Typ.Ok (M : Mem) (t : Typ) : Prop where
  fields : Row M Fld.toV 2 t.fA t.fc t.fields
structure Vl where
  kind : Int
  int : Int
  text : ByteArray
def Vl.toV (v : Vl) : Value := .agg #[.int .i64 v.kind, .int .i64 v.int, .string v.text]
structure Opd where
  kind : Int
  v : Vl
  var : ByteArray
  field : ByteArray
def Opd.toV (o : Opd) : Value := .agg #[.int .i64 o.kind, .int .i64 o.v.kind, .int .i64 o.v.int, .string o.v.text, .string o.var, .string o.field]
inductive Cnd where
  | mk (kind : Int) (sA : Option Addr) (subs : List Cnd) (sc : Nat) (l r : Opd)
def Cnd.kind : Cnd → Int | .mk k _ _ _ _ _ => k
def Cnd.sA : Cnd → Option Addr | .mk _ a _ _ _ _ => a
def Cnd.subs : Cnd → List Cnd | .mk _ _ s _ _ _ => s
def Cnd.sc : Cnd → Nat | .mk _ _ _ c _ _ => c
def Cnd.l : Cnd → Opd | .mk _ _ _ _ l _ => l
def Cnd.r : Cnd → Opd | .mk _ _ _ _ _ r => r
def Cnd.toV (c : Cnd) : Value := .agg #[.int .i64 c.kind, .slice c.sA c.subs.length c.sc,
  .int .i64 c.l.kind, .int .i64 c.l.v.kind, .int .i64 c.l.v.int, .string c.l.v.text, .string c.l.var, .string c.l.field,
  .int .i64 c.r.kind, .int .i64 c.r.v.kind, .int .i64 c.r.v.int, .string c.r.v.text, .string c.r.var, .string c.r.field]
inductive Cnd.Ok (M : Mem) : Cnd → Prop where
  | mk {c : Cnd} (row : Row M Cnd.toV 14 c.sA c.sc c.subs) (subs : ∀ x ∈ c.subs, Cnd.Ok M x) : Cnd.Ok M c
structure Pat where
  var : ByteArray
  type : ByteArray
  whr : Cnd
  window : Int
  n : Int
def Pat.toV (p : Pat) : Value := .agg #[.string p.var, .string p.type, .int .i64 p.whr.kind, .slice p.whr.sA p.whr.subs.length p.whr.sc,
  .int .i64 p.whr.l.kind, .int .i64 p.whr.l.v.kind, .int .i64 p.whr.l.v.int, .string p.whr.l.v.text, .string p.whr.l.var, .string p.whr.l.field,
  .int .i64 p.whr.r.kind, .int .i64 p.whr.r.v.kind, .int .i64 p.whr.r.v.int, .string p.whr.r.v.text, .string p.whr.r.var, .string p.whr.r.field, .int .i64 p.window, .int .i64 p.n]
structure Mny where
  count : Int
  field : ByteArray
  pat : Pat
def Mny.toV (m : Mny) : Value := .agg #[.int .i64 m.count, .string m.field, .string m.pat.var, .string m.pat.type, .int .i64 m.pat.whr.kind, .slice m.pat.whr.sA m.pat.whr.subs.length m.pat.whr.sc,
  .int .i64 m.pat.whr.l.kind, .int .i64 m.pat.whr.l.v.kind, .int .i64 m.pat.whr.l.v.int, .string m.pat.whr.l.v.text, .string m.pat.whr.l.var, .string m.pat.whr.l.field,
  .int .i64 m.pat.whr.r.kind, .int .i64 m.pat.whr.r.v.kind, .int .i64 m.pat.whr.r.v.int, .string m.pat.whr.r.v.text, .string m.pat.whr.r.var, .string m.pat.whr.r.field, .int .i64 m.pat.window, .int .i64 m.pat.n]
structure Opt where
  rel : Int
  low : Int
  high : Int
def Opt.toV (o : Opt) : Value := .agg #[.int .i64 o.rel, .int .i64 o.low, .int .i64 o.high]
structure Lnk where
  left : ByteArray
  oA : Option Addr
  opts : List Opt
  oc : Nat
  right : ByteArray
def Lnk.toV (k : Lnk) : Value := .agg #[.string k.left, .slice k.oA k.opts.length k.oc, .string k.right]
structure Rul where
  name : ByteArray
  wA : Option Addr
  whens : List Pat
  wc : Nat
  nA : Option Addr
  nots : List Pat
  nc : Nat
  mA : Option Addr
  manies : List Mny
  mc : Nat
  lA : Option Addr
  links : List Lnk
  lc : Nat
  etype : ByteArray
  eA : Option Addr
  evals : List Opd
  ec : Nat
def Rul.toV (x : Rul) : Value := .agg #[.string x.name, .slice x.wA x.whens.length x.wc, .slice x.nA x.nots.length x.nc, .slice x.mA x.manies.length x.mc, .slice x.lA x.links.length x.lc,
  .string x.etype, .slice x.eA x.evals.length x.ec]
structure Bok where
  tA : Option Addr
  types : List Typ
  tc : Nat
  rA : Option Addr
  rules : List Rul
  rc : Nat
def Bok.toV (b : Bok) : Value := .agg #[.slice b.tA b.types.length b.tc, .slice b.rA b.rules.length b.rc]
structure Pat.Ok (M : Mem) (p : Pat) : Prop where
  whr : p.whr.Ok M
structure Lnk.Ok (M : Mem) (k : Lnk) : Prop where
  opts : Row M Opt.toV 3 k.oA k.oc k.opts
structure Rul.Ok (M : Mem) (x : Rul) : Prop where
  whens : Row M Pat.toV 18 x.wA x.wc x.whens
  when : ∀ p ∈ x.whens, p.Ok M
  nots : Row M Pat.toV 18 x.nA x.nc x.nots
  not : ∀ p ∈ x.nots, p.Ok M
  manies : Row M Mny.toV 20 x.mA x.mc x.manies
  many : ∀ m ∈ x.manies, m.pat.Ok M
  links : Row M Lnk.toV 3 x.lA x.lc x.links
  link : ∀ k ∈ x.links, k.Ok M
  evals : Row M Opd.toV 6 x.eA x.ec x.evals
structure Bok.Ok (M : Mem) (b : Bok) : Prop where
  types : Row M Typ.toV 2 b.tA b.tc b.types
  type : ∀ t ∈ b.types, t.Ok M
  rules : Row M Rul.toV 7 b.rA b.rc b.rules
  rule : ∀ x ∈ b.rules, x.Ok M
theorem Typ.Ok.mono {M M' : Mem} (hM : M.le M') {t : Typ} (h : t.Ok M) : t.Ok M' := ⟨h.fields.mono hM⟩
theorem Cnd.Ok.mono {M M' : Mem} (hM : M.le M') {c : Cnd} (h : c.Ok M) : c.Ok M' := by
  induction h with
  | mk row _ ih => exact .mk (row.mono hM) ih
theorem Cnd.Ok.row {M : Mem} {c : Cnd} (h : c.Ok M) : Row M Cnd.toV 14 c.sA c.sc c.subs := by cases h; assumption
theorem Cnd.Ok.sub {M : Mem} {c : Cnd} (h : c.Ok M) : ∀ x ∈ c.subs, Cnd.Ok M x := by cases h; assumption
theorem Pat.Ok.mono {M M' : Mem} (hM : M.le M') {p : Pat} (h : p.Ok M) : p.Ok M' := ⟨h.whr.mono hM⟩
theorem Lnk.Ok.mono {M M' : Mem} (hM : M.le M') {k : Lnk} (h : k.Ok M) : k.Ok M' := ⟨h.opts.mono hM⟩
theorem Rul.Ok.mono {M M' : Mem} (hM : M.le M') {x : Rul} (h : x.Ok M) : x.Ok M' :=
  ⟨h.whens.mono hM, fun p hp => (h.when p hp).mono hM, h.nots.mono hM, fun p hp => (h.not p hp).mono hM, h.manies.mono hM, fun p hp => (h.many p hp).mono hM, h.links.mono hM, fun p hp => (h.link p hp).mono hM, h.evals.mono hM⟩
theorem Bok.Ok.mono {M M' : Mem} (hM : M.le M') {b : Bok} (h : b.Ok M) : b.Ok M' :=
  ⟨h.types.mono hM, fun t ht => (h.type t ht).mono hM, h.rules.mono hM, fun x hx => (h.rule x hx).mono hM⟩
end Go.Proofs.YthaamalgeieijabDoor
