/- The symbolic executor: maps with plain keys. No condition. -/
import Derived.Test.YthaamalgeieijabDoorSv
import Derived.MapKept
set_option linter.unusedVariables false
set_option linter.unusedSimpArgs false
namespace Go.Proofs.YthaamalgeieijabDoor
open Go.RowKit
open Classical
section
variable {P : Program}
noncomputable def mGet : List (Value × Value) → Value → Option Value
  | [], _ => none
  | (k', v) :: l, k => if k' = k then some v else mGet l k
noncomputable def mPut : List (Value × Value) → Value → Value → List (Value × Value)
  | [], k, v => [(k, v)]
  | (k', v') :: l, k, v => if k' = k then (k, v) :: l else (k', v') :: mPut l k v
noncomputable def mDel : List (Value × Value) → Value → List (Value × Value)
  | [], _ => []
  | (k', v') :: l, k => if k' = k then l else (k', v') :: mDel l k
def pairOf (e : MapEntry) : Value × Value := (e.key, e.val)
def MapAt (L : Mem) (v : Value) (es : List (Value × Value)) : Prop := (v = .map none ∧ es = []) ∨ ∃ r arr clock, v = .map (some r) ∧ L r = some (.map arr clock) ∧ arr.toList.map pairOf = es
def Keys (d : TypeDesc) (es : List (Value × Value)) : Prop := ∀ e ∈ es, MapKept.IsKey d e.1
def mapBlock : Value → Option Nat
  | .map r => r
  | _ => none
theorem mPut_ne {p : Value × Value} {l : List (Value × Value)} {k v : Value} (h : p.1 ≠ k) : mPut (p :: l) k v = p :: mPut l k v := by obtain ⟨a, b⟩ := p; simp only [mPut]; rw [if_neg h]
theorem mDel_ne {p : Value × Value} {l : List (Value × Value)} {k : Value} (h : p.1 ≠ k) : mDel (p :: l) k = p :: mDel l k := by obtain ⟨a, b⟩ := p; simp only [mDel]; rw [if_neg h]
theorem mGet_ne {p : Value × Value} {l : List (Value × Value)} {k : Value} (h : p.1 ≠ k) : mGet (p :: l) k = mGet l k := by obtain ⟨a, b⟩ := p; simp only [mGet]; rw [if_neg h]
theorem mGet_none : ∀ {l : List MapEntry} {k : Value}, (∀ x ∈ l, x.key ≠ k) → mGet (l.map pairOf) k = none
  | [], _, _ => rfl
  | e :: l, k, h => by simp only [List.map_cons, pairOf, mGet]; rw [if_neg (h e (by simp))]; exact mGet_none fun x hx => h x (by simp [hx])
theorem mPut_none : ∀ {l : List MapEntry} {k v : Value}, (∀ x ∈ l, x.key ≠ k) → mPut (l.map pairOf) k v = l.map pairOf ++ [(k, v)]
  | [], _, _, _ => rfl
  | e :: l, k, v, h => by simp only [List.map_cons, pairOf, mPut]; rw [if_neg (h e (by simp))]; rw [mPut_none fun x hx => h x (by simp [hx])]; rfl
theorem mDel_none : ∀ {l : List MapEntry} {k : Value}, (∀ x ∈ l, x.key ≠ k) → mDel (l.map pairOf) k = l.map pairOf
  | [], _, _ => rfl
  | e :: l, k, h => by simp only [List.map_cons, pairOf, mDel]; rw [if_neg (h e (by simp))]; rw [mDel_none fun x hx => h x (by simp [hx])]
/-- The first entry at a key: what is found of it. -/
theorem findNow_first {d : TypeDesc} {k : Value} (hk : MapKept.IsKey d k) : ∀ (l : List MapEntry) (i : Nat), (∀ x ∈ l, MapKept.IsKey d x.key) →
    (Instr.findNow d k l i = some none ∧ ∀ x ∈ l, x.key ≠ k) ∨ ∃ j e, Instr.findNow d k l i = some (some (i + j, e.val)) ∧ l[j]? = some e ∧ e.key = k ∧ mGet (l.map pairOf) k = some e.val ∧
      (∀ v, (l.modify j fun x => { x with key := k, val := v }).map pairOf = mPut (l.map pairOf) k v) ∧ (l.eraseIdx j).map pairOf = mDel (l.map pairOf) k
  | [], _, _ => .inl ⟨rfl, by simp⟩
  | e :: es, i, h => by
    obtain ⟨r, hr, hiff⟩ := MapKept.sameNow_of_keys hk (h e (.head _))
    cases r with
    | true =>
      have he := (hiff.1 rfl).symm
      refine .inr ⟨0, e, by simp [Instr.findNow, hr], rfl, he, by simp [mGet, pairOf, he], fun v => by simp [mPut, pairOf, he], by simp [mDel, pairOf, he]⟩
    | false =>
      have hne : e.key ≠ k := fun q => by have := hiff.2 q.symm; cases this
      rcases findNow_first hk es (i + 1) (fun x hx => h x (.tail _ hx)) with ⟨h1, h2⟩ | ⟨j, e', h1, h2, h3, h4, h5, h6⟩
      · exact .inl ⟨by simp [Instr.findNow, hr, h1], fun x hx => by
          cases hx with
          | head => exact hne
          | tail _ hx => exact h2 x hx⟩
      · refine .inr ⟨j + 1, e', by simp [Instr.findNow, hr, h1]; omega, by simpa using h2, h3, ?_, fun v => ?_, ?_⟩
        · rw [List.map_cons, mGet_ne (show (pairOf e).1 ≠ k from hne)]; exact h4
        · simp only [List.modify_succ_cons, List.map_cons, h5 v]; rw [mPut_ne (show (pairOf e).1 ≠ k from hne)]
        · simp only [List.eraseIdx_cons_succ, List.map_cons, h6]; rw [mDel_ne (show (pairOf e).1 ≠ k from hne)]
theorem keys_arr {d : TypeDesc} {arr : Array MapEntry} (h : Keys d (arr.toList.map pairOf)) : ∀ x ∈ arr.toList, MapKept.IsKey d x.key := fun x hx => h (pairOf x) (List.mem_map_of_mem hx)
/-- A map that is lent or own gets other entries. -/
theorem After.writeMap {M L : Mem} {w : World} (h1 : Knows M w) (h2 : Knows L w) (h3 : ∀ k o, L k = some o → M k = none) {g : Nat} {o : Obj} (o' : Obj) (hg : L g = some o) : After M L w M (L.upd g o') { w with heap := w.heap.setIfInBounds g o' } := by
  have hb := h2 g o hg
  have hs := MapKept.heap_set (o' := o') hb
  exact { le := Mem.le_refl _
          know := fun k o hk => by
            by_cases hkg : k = g
            · subst hkg; have := h3 _ _ hg; rw [this] at hk; cases hk
            · exact (hs.2 k hkg).trans (h1 k o hk)
          lin := fun k o hk => by
            by_cases hkg : k = g
            · subst hkg; rw [Mem.upd_self] at hk; injection hk with hk; subst hk; exact hs.1
            · rw [Mem.upd_ne _ _ hkg] at hk; exact (hs.2 k hkg).trans (h2 k o hk)
          disj := fun k o hk => by
            by_cases hkg : k = g
            · subst hkg; exact h3 _ _ hg
            · rw [Mem.upd_ne _ _ hkg] at hk; exact h3 k o hk
          newM := fun _ _ h => .inl h
          newL := fun k o hk => .inl (by
            by_cases hkg : k = g
            · subst hkg; rw [hg]; simp
            · rw [Mem.upd_ne _ _ hkg] at hk; rw [hk]; simp)
          os := rfl, tape := rfl, output := rfl, size := by simp
          frame := fun k hk hn => hs.2 k (fun e => by subst e; rw [hg] at hn; cases hn) }
theorem run_look {M : Mem} {w : World} (hk : Knows M w) {t kt et : TypeId} {d : TypeDesc} {z mv key : Value} {es : List (Value × Value)} (ht : P.underlying t = some (.map kt et)) (hd : P.underlying kt = some d) (hz : (P.info? et).bind (·.zero) = some z)
    (hm : MapAt M mv es) (hks : Keys d es) (hkey : MapKept.IsKey d key) {v : Value} {ok : Bool} (hg : mGet es key = if ok then some v else none) (hv : ok = false → v = z) (c : Bool) :
    (Instr.lookup t mv key c).run P w = .ok (if c then .tuple #[v, .bool ok] else v) w := by
  have hzv : (zeroValue et).run P w = .ok z w := by
    cases hi : P.info? et with
    | none => rw [hi] at hz; cases hz
    | some i => rw [hi] at hz; simp only [Option.bind_some] at hz; simp [zeroValue, typeInfo, hi, hz]
  have hck : ∀ b, (Instr.checkKey b 10000 kt key).run P w = .ok () w := fun b => MapKept.run_checkKey hd hkey b 9999
  rcases hm with ⟨rfl, rfl⟩ | ⟨r, arr, clock, rfl, hr, rfl⟩
  · have hok : ok = false := by cases ok with
      | false => rfl
      | true => simp [mGet] at hg
    subst hok
    rw [hv rfl]
    have hf : (Instr.findKey kt key []).run P w = .ok none w := MapKept.run_findKey hd rfl
    cases c <;> simp [Instr.lookup, run_underlying ht, hck, hf, hzv]
  · have hget := MapKept.run_getObj_map (P := P) (hk r _ hr)
    rcases findNow_first hkey arr.toList 0 (keys_arr hks) with ⟨h1, h2⟩ | ⟨j, e, h1, h2, h3, h4, _⟩
    · rw [mGet_none h2] at hg
      have hok : ok = false := by cases ok with
        | false => rfl
        | true => simp at hg
      subst hok
      rw [hv rfl]
      have hf := MapKept.run_findKey (P := P) (w := w) hd h1
      cases c <;> simp [Instr.lookup, run_underlying ht, hget, hck, hf, hzv]
    · rw [h4] at hg
      have hok : ok = true := by cases ok with
        | true => rfl
        | false => simp at hg
      subst hok
      simp only [if_true, Option.some.injEq] at hg
      subst hg
      have hf := MapKept.run_findKey (P := P) (w := w) hd h1
      cases c <;> simp [Instr.lookup, run_underlying ht, hget, hck, hf]
structure MAPW (L : Mem) (mv : Value) (es : List (Value × Value)) (k : Mem → Prop) : Prop where
  all : ∀ L', MapAt L' mv es → (∀ i, mapBlock mv ≠ some i → L' i = L i) → k L'
theorem run_mput {M L : Mem} {w : World} (h1 : Knows M w) (h2 : Knows L w) (h3 : ∀ k o, L k = some o → M k = none) {t kt et : TypeId} {d : TypeDesc} {mv key val : Value} {es : List (Value × Value)} (ht : P.underlying t = some (.map kt et)) (hd : P.underlying kt = some d)
    (hm : MapAt L mv es) (hn : mv ≠ .map none) (hks : Keys d es) (hkey : MapKept.IsKey d key) : ∃ w' L', (Instr.mapUpdate t mv key val).run P w = .ok () w' ∧ After M L w M L' w' ∧ MapAt L' mv (mPut es key val) ∧ ∀ i, mapBlock mv ≠ some i → L' i = L i := by
  have hck : ∀ b, (Instr.checkKey b 10000 kt key).run P w = .ok () w := fun b => MapKept.run_checkKey hd hkey b 9999
  rcases hm with ⟨rfl, _⟩ | ⟨r, arr, clock, rfl, hr, rfl⟩
  · exact absurd rfl hn
  · have hb := h2 r _ hr
    have hget := MapKept.run_getObj_map (P := P) hb
    rcases findNow_first hkey arr.toList 0 (keys_arr hks) with ⟨q1, q2⟩ | ⟨j, e, q1, q2, q3, _, q5, _⟩
    · have hf := MapKept.run_findKey (P := P) (w := w) hd q1
      refine ⟨_, _, ?_, After.writeMap h1 h2 h3 (.map (arr.push ⟨key, val, clock⟩) (clock + 1)) hr, .inr ⟨r, _, _, rfl, Mem.upd_self _ _ _, ?_⟩, fun i hi => Mem.upd_ne _ _ (fun e => hi (by rw [e]; rfl))⟩
      · simp [Instr.mapUpdate, run_underlying ht, hget, hck, hf, MapKept.run_setObj_map _ hb]
      · rw [mPut_none q2]; simp [pairOf]
    · have hf := MapKept.run_findKey (P := P) (w := w) hd q1
      have hj : arr[j]? = some e := by simpa using q2
      have hst := MapKept.run_keyThatStays (P := P) (w := w) hkey
      refine ⟨_, _, ?_, After.writeMap h1 h2 h3 (.map (arr.modify j fun e => { e with key := key, val := val }) clock) hr, .inr ⟨r, _, _, rfl, Mem.upd_self _ _ _, ?_⟩, fun i hi => Mem.upd_ne _ _ (fun e => hi (by rw [e]; rfl))⟩
      · simp [Instr.mapUpdate, run_underlying ht, hget, hck, hf, hj, q3, hst, MapKept.run_setObj_map _ hb]
      · rw [Array.toList_modify]; exact q5 val
theorem run_mdel {M L : Mem} {w : World} (h1 : Knows M w) (h2 : Knows L w) (h3 : ∀ k o, L k = some o → M k = none) {t t' kt et ty : TypeId} {d : TypeDesc} {mv key : Value} {es : List (Value × Value)} (ht : P.underlying t = some (.map kt et)) (hd : P.underlying kt = some d)
    (hm : MapAt L mv es) (hks : Keys d es) (hkey : MapKept.IsKey d key) : ∃ w' L', (Builtin.delete_ #[t, t'] ty #[mv, key]).run P w = .ok (.tuple #[]) w' ∧ After M L w M L' w' ∧ MapAt L' mv (mDel es key) ∧ ∀ i, mapBlock mv ≠ some i → L' i = L i := by
  have hck : ∀ b, (Instr.checkKey b 10000 kt key).run P w = .ok () w := fun b => MapKept.run_checkKey hd hkey b 9999
  rcases hm with ⟨rfl, rfl⟩ | ⟨r, arr, clock, rfl, hr, rfl⟩
  · exact ⟨w, L, by simp [Builtin.delete_, run_underlying ht, hck], .refl h1 h2 h3, .inl ⟨rfl, rfl⟩, fun _ _ => rfl⟩
  · have hb := h2 r _ hr
    have hget := MapKept.run_getObj_map (P := P) hb
    rcases findNow_first hkey arr.toList 0 (keys_arr hks) with ⟨q1, q2⟩ | ⟨j, e, q1, q2, q3, _, _, q6⟩
    · have hf := MapKept.run_findKey (P := P) (w := w) hd q1
      refine ⟨_, _, ?_, After.writeMap h1 h2 h3 (.map arr clock) hr, .inr ⟨r, _, _, rfl, Mem.upd_self _ _ _, ?_⟩, fun i hi => Mem.upd_ne _ _ (fun e => hi (by rw [e]; rfl))⟩
      · simp [Builtin.delete_, run_underlying ht, hget, hck, hf, MapKept.run_setObj_map _ hb]
      · rw [mDel_none q2]
    · have hf := MapKept.run_findKey (P := P) (w := w) hd q1
      have hjs : j < arr.size := by have := (List.getElem?_eq_some_iff.1 q2).1; simpa using this
      have hsub : (arr.eraseIdxIfInBounds j).toList = arr.toList.eraseIdx j := by
        unfold Array.eraseIdxIfInBounds
        rw [dif_pos hjs]
        simp
      refine ⟨_, _, ?_, After.writeMap h1 h2 h3 (.map (arr.eraseIdxIfInBounds j) clock) hr, .inr ⟨r, _, _, rfl, Mem.upd_self _ _ _, ?_⟩, fun i hi => Mem.upd_ne _ _ (fun e => hi (by rw [e]; rfl))⟩
      · simp [Builtin.delete_, run_underlying ht, hget, hck, hf, MapKept.run_setObj_map _ hb]
      · rw [hsub]; exact q6
theorem run_mlen {M : Mem} {w : World} (hk : Knows M w) {t kt et ty : TypeId} {mv : Value} {es : List (Value × Value)} (ht : P.underlying t = some (.map kt et)) (hm : MapAt M mv es) : (Builtin.len_ #[t] ty #[mv]).run P w = .ok (.int .i64 (es.length : Int)) w := by
  rcases hm with ⟨rfl, rfl⟩ | ⟨r, arr, clock, rfl, hr, rfl⟩
  · simp [Builtin.len_, run_underlying ht, goInt]
  · have hget := MapKept.run_getObj_map (P := P) (hk r _ hr)
    simp [Builtin.len_, run_underlying ht, goInt, hget]
end
end Go.Proofs.YthaamalgeieijabDoor
