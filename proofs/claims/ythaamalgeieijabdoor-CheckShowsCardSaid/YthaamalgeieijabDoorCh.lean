/- Contracts: whether a rule has a pattern of a type; whether events come of their own type, by both sides. No condition. -/
import Derived.Test.YthaamalgeieijabDoorGr
import Derived.Test.YthaamalgeieijabDoorCg
set_option linter.unusedVariables false
set_option linter.unusedSimpArgs false
namespace Go.Proofs.YthaamalgeieijabDoor
open Go

theorem slIndexFuncPattern_ok {A : Option Addr} {n c : Nat} {l : List Pat} {f : FuncId} {first cap : List Value} {g : Pat → Bool} {M L : Mem} (hn : n = l.length) (hfn : isFn Tryd.prog f = true) (h : Row M Pat.toV 18 A c l) (hf : ∀ p ∈ l, Pure Tryd.prog f (List.toArray (first ++ [p.toV] ++ cap)) M L (.bool (g p))) :
    Pure Tryd.prog 78 #[.slice A n c, .func (.func f) (List.toArray first) (List.toArray cap)] M L (.int .i64 (idxF g 0 l)) := by
  subst hn
  refine Pure.of (slIndexFuncPattern_spec ?_)
  unfold vc_slIndexFuncPattern
  refine LOOP.to l.length (fun j => idxF g 0 l = idxF g j (l.drop j)) (by simp) ?_
  intro j again hj hI hag
  have hlen := (h).len
  (repeat apply EX.in)
  refine NEED.mk ⟨rfl, rfl⟩ ?_
  refine IFF.mk (fun hb => ?_) (fun hb => ?_) <;> (try simp only [decide_eq_true_eq, decide_eq_false_iff_not, Bool.and_eq_true, Bool.or_eq_true, Bool.not_eq_true', Bool.not_eq_false', Bool.and_eq_false_iff, Bool.or_eq_false_iff, Bool.not_true, Bool.not_false, Int.not_lt, Int.not_le, Decidable.not_not, ne_eq] at hb)
  · have hlt : j < l.length := by simpa using hb
    have hr := (h).cell j hlt
    have hd := drop_step hlt
    refine NEED.mk ⟨hr.ne, by omega, by omega⟩ ?_
    rw [hd, idxF] at hI
    rw [hI]
    (repeat apply EX.in)
    refine NEED.mk (by first | exact hr.up | exact hr) ?_
    refine NEED.mk hfn ?_
    refine CALL.pure (hf l[j] (List.getElem_mem hlt)) ?_
    (repeat apply EX.in)
    refine NEED.mk rfl ?_
    refine IFF.mk (fun hb => ?_) (fun hb => ?_) <;> (try simp only [decide_eq_true_eq, decide_eq_false_iff_not, Bool.and_eq_true, Bool.or_eq_true, Bool.not_eq_true', Bool.not_eq_false', Bool.and_eq_false_iff, Bool.or_eq_false_iff, Bool.not_true, Bool.not_false, Int.not_lt, Int.not_le, Decidable.not_not, ne_eq] at hb)
    · exact ⟨by rw [if_pos hb], rfl⟩
    · rw [if_neg (by simp [hb])] at hI
      refine NEED.mk (by unfold inI64; omega) ?_
      refine NEED.mk ⟨rfl, rfl⟩ ?_
      exact hag hlt hI
  · have hd := drop_end (j := j) (l := l) (by simpa using hb)
    exact ⟨by rw [hI, hd]; rfl, rfl⟩
theorem slContainsFuncPattern_ok {A : Option Addr} {n c : Nat} {l : List Pat} {f : FuncId} {first cap : List Value} {g : Pat → Bool} {M L : Mem} (hn : n = l.length) (hfn : isFn Tryd.prog f = true) (h : Row M Pat.toV 18 A c l) (hf : ∀ p ∈ l, Pure Tryd.prog f (List.toArray (first ++ [p.toV] ++ cap)) M L (.bool (g p))) :
    Pure Tryd.prog 64 #[.slice A n c, .func (.func f) (List.toArray first) (List.toArray cap)] M L (.bool (l.any g)) := by
  refine Pure.of (slContainsFuncPattern_spec ?_)
  unfold vc_slContainsFuncPattern
  refine CALL.pure (slIndexFuncPattern_ok hn hfn h hf) ?_
  (repeat apply EX.in)
  refine NEED.mk rfl ?_
  exact ⟨by rw [idxF_any], rfl⟩
theorem slIndexFuncMany_ok {A : Option Addr} {n c : Nat} {l : List Mny} {f : FuncId} {first cap : List Value} {g : Mny → Bool} {M L : Mem} (hn : n = l.length) (hfn : isFn Tryd.prog f = true) (h : Row M Mny.toV 20 A c l) (hf : ∀ p ∈ l, Pure Tryd.prog f (List.toArray (first ++ [p.toV] ++ cap)) M L (.bool (g p))) :
    Pure Tryd.prog 79 #[.slice A n c, .func (.func f) (List.toArray first) (List.toArray cap)] M L (.int .i64 (idxF g 0 l)) := by
  subst hn
  refine Pure.of (slIndexFuncMany_spec ?_)
  unfold vc_slIndexFuncMany
  refine LOOP.to l.length (fun j => idxF g 0 l = idxF g j (l.drop j)) (by simp) ?_
  intro j again hj hI hag
  have hlen := (h).len
  (repeat apply EX.in)
  refine NEED.mk ⟨rfl, rfl⟩ ?_
  refine IFF.mk (fun hb => ?_) (fun hb => ?_) <;> (try simp only [decide_eq_true_eq, decide_eq_false_iff_not, Bool.and_eq_true, Bool.or_eq_true, Bool.not_eq_true', Bool.not_eq_false', Bool.and_eq_false_iff, Bool.or_eq_false_iff, Bool.not_true, Bool.not_false, Int.not_lt, Int.not_le, Decidable.not_not, ne_eq] at hb)
  · have hlt : j < l.length := by simpa using hb
    have hr := (h).cell j hlt
    have hd := drop_step hlt
    refine NEED.mk ⟨hr.ne, by omega, by omega⟩ ?_
    rw [hd, idxF] at hI
    rw [hI]
    (repeat apply EX.in)
    refine NEED.mk (by first | exact hr.up | exact hr) ?_
    refine NEED.mk hfn ?_
    refine CALL.pure (hf l[j] (List.getElem_mem hlt)) ?_
    (repeat apply EX.in)
    refine NEED.mk rfl ?_
    refine IFF.mk (fun hb => ?_) (fun hb => ?_) <;> (try simp only [decide_eq_true_eq, decide_eq_false_iff_not, Bool.and_eq_true, Bool.or_eq_true, Bool.not_eq_true', Bool.not_eq_false', Bool.and_eq_false_iff, Bool.or_eq_false_iff, Bool.not_true, Bool.not_false, Int.not_lt, Int.not_le, Decidable.not_not, ne_eq] at hb)
    · exact ⟨by rw [if_pos hb], rfl⟩
    · rw [if_neg (by simp [hb])] at hI
      refine NEED.mk (by unfold inI64; omega) ?_
      refine NEED.mk ⟨rfl, rfl⟩ ?_
      exact hag hlt hI
  · have hd := drop_end (j := j) (l := l) (by simpa using hb)
    exact ⟨by rw [hI, hd]; rfl, rfl⟩
theorem slContainsFuncMany_ok {A : Option Addr} {n c : Nat} {l : List Mny} {f : FuncId} {first cap : List Value} {g : Mny → Bool} {M L : Mem} (hn : n = l.length) (hfn : isFn Tryd.prog f = true) (h : Row M Mny.toV 20 A c l) (hf : ∀ p ∈ l, Pure Tryd.prog f (List.toArray (first ++ [p.toV] ++ cap)) M L (.bool (g p))) :
    Pure Tryd.prog 65 #[.slice A n c, .func (.func f) (List.toArray first) (List.toArray cap)] M L (.bool (l.any g)) := by
  refine Pure.of (slContainsFuncMany_spec ?_)
  unfold vc_slContainsFuncMany
  refine CALL.pure (slIndexFuncMany_ok hn hfn h hf) ?_
  (repeat apply EX.in)
  refine NEED.mk rfl ?_
  exact ⟨by rw [idxF_any], rfl⟩
theorem slIndexFuncType_ok {A : Option Addr} {n c : Nat} {l : List Typ} {f : FuncId} {first cap : List Value} {g : Typ → Bool} {M L : Mem} (hn : n = l.length) (hfn : isFn Tryd.prog f = true) (h : Row M Typ.toV 2 A c l) (hf : ∀ p ∈ l, Pure Tryd.prog f (List.toArray (first ++ [p.toV] ++ cap)) M L (.bool (g p))) :
    Pure Tryd.prog 67 #[.slice A n c, .func (.func f) (List.toArray first) (List.toArray cap)] M L (.int .i64 (idxF g 0 l)) := by
  subst hn
  refine Pure.of (slIndexFuncType_spec ?_)
  unfold vc_slIndexFuncType
  refine LOOP.to l.length (fun j => idxF g 0 l = idxF g j (l.drop j)) (by simp) ?_
  intro j again hj hI hag
  have hlen := (h).len
  (repeat apply EX.in)
  refine NEED.mk ⟨rfl, rfl⟩ ?_
  refine IFF.mk (fun hb => ?_) (fun hb => ?_) <;> (try simp only [decide_eq_true_eq, decide_eq_false_iff_not, Bool.and_eq_true, Bool.or_eq_true, Bool.not_eq_true', Bool.not_eq_false', Bool.and_eq_false_iff, Bool.or_eq_false_iff, Bool.not_true, Bool.not_false, Int.not_lt, Int.not_le, Decidable.not_not, ne_eq] at hb)
  · have hlt : j < l.length := by simpa using hb
    have hr := (h).cell j hlt
    have hd := drop_step hlt
    refine NEED.mk ⟨hr.ne, by omega, by omega⟩ ?_
    rw [hd, idxF] at hI
    rw [hI]
    (repeat apply EX.in)
    refine NEED.mk (by first | exact hr.up | exact hr) ?_
    refine NEED.mk hfn ?_
    refine CALL.pure (hf l[j] (List.getElem_mem hlt)) ?_
    (repeat apply EX.in)
    refine NEED.mk rfl ?_
    refine IFF.mk (fun hb => ?_) (fun hb => ?_) <;> (try simp only [decide_eq_true_eq, decide_eq_false_iff_not, Bool.and_eq_true, Bool.or_eq_true, Bool.not_eq_true', Bool.not_eq_false', Bool.and_eq_false_iff, Bool.or_eq_false_iff, Bool.not_true, Bool.not_false, Int.not_lt, Int.not_le, Decidable.not_not, ne_eq] at hb)
    · exact ⟨by rw [if_pos hb], rfl⟩
    · rw [if_neg (by simp [hb])] at hI
      refine NEED.mk (by unfold inI64; omega) ?_
      refine NEED.mk ⟨rfl, rfl⟩ ?_
      exact hag hlt hI
  · have hd := drop_end (j := j) (l := l) (by simpa using hb)
    exact ⟨by rw [hI, hd]; rfl, rfl⟩
theorem slContainsFuncType_ok {A : Option Addr} {n c : Nat} {l : List Typ} {f : FuncId} {first cap : List Value} {g : Typ → Bool} {M L : Mem} (hn : n = l.length) (hfn : isFn Tryd.prog f = true) (h : Row M Typ.toV 2 A c l) (hf : ∀ p ∈ l, Pure Tryd.prog f (List.toArray (first ++ [p.toV] ++ cap)) M L (.bool (g p))) :
    Pure Tryd.prog 41 #[.slice A n c, .func (.func f) (List.toArray first) (List.toArray cap)] M L (.bool (l.any g)) := by
  refine Pure.of (slContainsFuncType_spec ?_)
  unfold vc_slContainsFuncType
  refine CALL.pure (slIndexFuncType_ok hn hfn h hf) ?_
  (repeat apply EX.in)
  refine NEED.mk rfl ?_
  exact ⟨by rw [idxF_any], rfl⟩
theorem cUses_1_ok {p : Pat} {c0 : Option Addr} {s : ByteArray} {M L : Mem} (h : ReadsAt M c0 0 (.string s)) : Pure Tryd.prog 63 #[p.toV, .pointer c0] M L (.bool (decide (p.type = s))) := by
  refine Pure.of (cUses_1_spec ?_)
  unfold vc_cUses_1
  (repeat apply EX.in)
  exact NEED.mk h.up ⟨rfl, rfl⟩
theorem cUses_2_ok {m : Mny} {c0 c1 : Option Addr} {s : ByteArray} {M L : Mem} (h : ReadsAt M c0 0 (.func (.func 63) #[] #[.pointer c1])) (h1 : ReadsAt M c1 0 (.string s)) : Pure Tryd.prog 66 #[m.toV, .pointer c0] M L (.bool (decide (m.pat.type = s))) := by
  refine Pure.of (cUses_2_spec ?_)
  unfold vc_cUses_2
  refine EX.in 63 (EX.in [] (EX.in [.pointer c1] (NEED.mk h.up (NEED.mk (by kernel_rfl) ?_))))
  refine CALL.pure (cUses_1_ok (p := m.pat) h1) ?_
  (repeat apply EX.in)
  refine NEED.mk rfl ?_
  exact ⟨rfl, rfl⟩
/-- A block of one cell, read. -/
theorem ReadsAt.cell {M : Mem} {g : Nat} {t : TypeId} {u : Value} (h : M g = some (.cells #[u] t (0, 0))) (h1 : u.cells = #[u]) : ReadsAt M (some ⟨g, 0, none⟩) 0 u :=
  ⟨_, rfl, fun j v hv => by
    rw [h1] at hv
    rw [own_add]
    simpa [mcell, h] using hv⟩
theorem Mem.or_new {M L : Mem} {g : Nat} {o : Obj} (hM : M g = none) : (Mem.or M (L.upd g o)) g = some o := by simp [Mem.or, hM, Mem.upd_self]
theorem Mem.or_old {M L : Mem} {g k : Nat} {o : Obj} (h : k ≠ g) : (Mem.or M (L.upd g o)) k = (Mem.or M L) k := by simp [Mem.or, Mem.upd_ne _ _ h]
theorem cUses_ok {x : Rul} {s : ByteArray} {M L : Mem} (hx : x.Ok M) : Pure Tryd.prog 40 #[x.toV, .string s] M L (.bool (usesF x s)) := by
  refine Pure.of' (cUses_spec ?_)
  unfold vc_cUses
  refine ⟨fun g1 hM1 hL1 => ⟨fun g2 hM2 hL2 => ?_⟩⟩
  obtain ⟨n21, hL2'⟩ := Mem.upd_none hL2
  refine ⟨⟨_, _, _, rfl, rfl, Mem.upd_self _ _ _, by simp, ?_⟩⟩
  have hfn1 : isFn Tryd.prog 63 = true := by kernel_rfl
  have hfn2 : isFn Tryd.prog 66 = true := by kernel_rfl
  generalize hL3 : Mem.upd _ _ _ = L3
  have q1 : L3 g1 = some (.cells #[.string s] 9 (0, 0)) := by
    rw [← hL3, Mem.upd_ne _ _ (Ne.symm n21), Mem.upd_ne _ _ (Ne.symm n21), Mem.upd_self]
  obtain ⟨t2, q2⟩ : ∃ t, L3 g2 = some (.cells #[.func (.func 63) #[] #[.pointer (some ⟨g1, 0, none⟩)]] t (0, 0)) :=
    ⟨_, by rw [← hL3, Mem.upd_self]; simp; rfl⟩
  have hle : L.le L3 := fun k o hk => by
    have k1 : k ≠ g1 := fun e => by rw [e, hL1] at hk; cases hk
    have k2 : k ≠ g2 := fun e => by rw [e, hL2'] at hk; cases hk
    rw [← hL3, Mem.upd_ne _ _ k2, Mem.upd_ne _ _ k2, Mem.upd_ne _ _ k1]; exact hk
  have w1 : ReadsAt (Mem.or M L3) (some ⟨g1, 0, none⟩) 0 (.string s) := ReadsAt.cell (by simp only [Mem.or, hM1]; exact q1) rfl
  have w2 : ReadsAt (Mem.or M L3) (some ⟨g2, 0, none⟩) 0 (.func (.func 63) #[] #[.pointer (some ⟨g1, 0, none⟩)]) := ReadsAt.cell (by simp only [Mem.or, hM2]; exact q2) rfl
  have hx' := hx.mono (Mem.le_or M L3)
  have cw := Pure.borrow (M := M) (L := L3) (slContainsFuncPattern_ok (first := []) (cap := [.pointer (some ⟨g1, 0, none⟩)]) (g := fun p => decide (p.type = s)) (by rfl) hfn1 hx'.whens fun p _ => cUses_1_ok w1)
  have cn := Pure.borrow (M := M) (L := L3) (slContainsFuncPattern_ok (first := []) (cap := [.pointer (some ⟨g1, 0, none⟩)]) (g := fun p => decide (p.type = s)) (by rfl) hfn1 hx'.nots fun p _ => cUses_1_ok w1)
  have cm := Pure.borrow (M := M) (L := L3) (slContainsFuncMany_ok (first := []) (cap := [.pointer (some ⟨g2, 0, none⟩)]) (g := fun m => decide (m.pat.type = s)) (by rfl) hfn2 hx'.manies fun p _ => cUses_2_ok w2 w1)
  refine EX.in 63 (EX.in [] (EX.in [.pointer (some ⟨g1, 0, none⟩)] (NEED.mk w2 ?_)))
  refine CALL.pure cw (EX.in _ (NEED.mk rfl ?_))
  refine EX.in 63 (EX.in [] (EX.in [.pointer (some ⟨g1, 0, none⟩)] (NEED.mk (fun _ => w2) ?_)))
  refine IFF.mk (fun hb => ?_) (fun hb => ?_) <;> (try simp only [decide_eq_true_eq, decide_eq_false_iff_not, Bool.and_eq_true, Bool.or_eq_true, Bool.not_eq_true', Bool.not_eq_false', Bool.and_eq_false_iff, Bool.or_eq_false_iff, Bool.not_true, Bool.not_false, Int.not_lt, Int.not_le, Decidable.not_not, ne_eq] at hb)
  · exact IFF.t ⟨by simp [usesF, hb], hle⟩
  have hw := hb
  refine CALL.pure cn (EX.in _ (NEED.mk rfl ?_))
  refine IFF.mk (fun hb => ?_) (fun hb => ?_) <;> (try simp only [decide_eq_true_eq, decide_eq_false_iff_not, Bool.and_eq_true, Bool.or_eq_true, Bool.not_eq_true', Bool.not_eq_false', Bool.and_eq_false_iff, Bool.or_eq_false_iff, Bool.not_true, Bool.not_false, Int.not_lt, Int.not_le, Decidable.not_not, ne_eq] at hb)
  · exact ⟨by rw [usesF, hw, hb]; rfl, hle⟩
  refine CALL.pure cm (EX.in _ (NEED.mk rfl ?_))
  exact ⟨by rw [usesF, hw, hb]; rfl, hle⟩
theorem rSpeaksOf_ok {x : Rul} {s : ByteArray} {M L : Mem} (hx : x.Ok M) : Pure Tryd.prog 52 #[x.toV, .string s] M L (.bool (usesF x s)) := by
  refine Pure.of (rSpeaksOf_spec ?_)
  unfold vc_rSpeaksOf
  refine LOOP.to x.whens.length (fun j => x.whens.any (fun p => decide (p.type = s)) = (x.whens.drop j).any (fun p => decide (p.type = s))) (by simp) ?_
  intro j again hj hI hag
  have hlen := (hx.whens).len
  (repeat apply EX.in)
  refine NEED.mk ⟨rfl, rfl⟩ ?_
  refine IFF.mk (fun hb => ?_) (fun hb => ?_) <;> (try simp only [decide_eq_true_eq, decide_eq_false_iff_not, Bool.and_eq_true, Bool.or_eq_true, Bool.not_eq_true', Bool.not_eq_false', Bool.and_eq_false_iff, Bool.or_eq_false_iff, Bool.not_true, Bool.not_false, Int.not_lt, Int.not_le, Decidable.not_not, ne_eq] at hb)
  · have hlt : j < x.whens.length := by simpa using hb
    have hr := (hx.whens).cell j hlt
    have hd := drop_step hlt
    refine NEED.mk ⟨hr.ne, by omega, by omega⟩ ?_
    rw [hd, List.any_cons] at hI
    (repeat apply EX.in)
    refine NEED.mk (by first | exact (ReadsAt.sub hr (1) (by simp) rfl).up | exact ReadsAt.sub hr (1) (by simp) rfl) ?_
    refine IFF.mk (fun hb => ?_) (fun hb => ?_) <;> (try simp only [decide_eq_true_eq, decide_eq_false_iff_not, Bool.and_eq_true, Bool.or_eq_true, Bool.not_eq_true', Bool.not_eq_false', Bool.and_eq_false_iff, Bool.or_eq_false_iff, Bool.not_true, Bool.not_false, Int.not_lt, Int.not_le, Decidable.not_not, ne_eq] at hb)
    · exact ⟨by rw [usesF, hI]; simp [hb], rfl⟩
    · refine NEED.mk (by unfold inI64; omega) ?_
      refine NEED.mk ⟨rfl, rfl⟩ ?_
      exact hag hlt (by rw [hI]; simp [hb])
  have hd := drop_end (j := j) (l := x.whens) (by simpa using hb)
  rw [hd, List.any_nil] at hI
  have hw := hI
  refine LOOP.to x.nots.length (fun j => x.nots.any (fun p => decide (p.type = s)) = (x.nots.drop j).any (fun p => decide (p.type = s))) (by simp) ?_
  intro j again hj hI hag
  have hlen := (hx.nots).len
  (repeat apply EX.in)
  refine NEED.mk ⟨rfl, rfl⟩ ?_
  refine IFF.mk (fun hb => ?_) (fun hb => ?_) <;> (try simp only [decide_eq_true_eq, decide_eq_false_iff_not, Bool.and_eq_true, Bool.or_eq_true, Bool.not_eq_true', Bool.not_eq_false', Bool.and_eq_false_iff, Bool.or_eq_false_iff, Bool.not_true, Bool.not_false, Int.not_lt, Int.not_le, Decidable.not_not, ne_eq] at hb)
  · have hlt : j < x.nots.length := by simpa using hb
    have hr := (hx.nots).cell j hlt
    have hd := drop_step hlt
    refine NEED.mk ⟨hr.ne, by omega, by omega⟩ ?_
    rw [hd, List.any_cons] at hI
    (repeat apply EX.in)
    refine NEED.mk (by first | exact (ReadsAt.sub hr (1) (by simp) rfl).up | exact ReadsAt.sub hr (1) (by simp) rfl) ?_
    refine IFF.mk (fun hb => ?_) (fun hb => ?_) <;> (try simp only [decide_eq_true_eq, decide_eq_false_iff_not, Bool.and_eq_true, Bool.or_eq_true, Bool.not_eq_true', Bool.not_eq_false', Bool.and_eq_false_iff, Bool.or_eq_false_iff, Bool.not_true, Bool.not_false, Int.not_lt, Int.not_le, Decidable.not_not, ne_eq] at hb)
    · exact ⟨by rw [usesF, hI]; simp [hb], rfl⟩
    · refine NEED.mk (by unfold inI64; omega) ?_
      refine NEED.mk ⟨rfl, rfl⟩ ?_
      exact hag hlt (by rw [hI]; simp [hb])
  have hd := drop_end (j := j) (l := x.nots) (by simpa using hb)
  rw [hd, List.any_nil] at hI
  have hn := hI
  refine LOOP.to x.manies.length (fun j => x.manies.any (fun p => decide (p.pat.type = s)) = (x.manies.drop j).any (fun p => decide (p.pat.type = s))) (by simp) ?_
  intro j again hj hI hag
  have hlen := (hx.manies).len
  (repeat apply EX.in)
  refine NEED.mk ⟨rfl, rfl⟩ ?_
  refine IFF.mk (fun hb => ?_) (fun hb => ?_) <;> (try simp only [decide_eq_true_eq, decide_eq_false_iff_not, Bool.and_eq_true, Bool.or_eq_true, Bool.not_eq_true', Bool.not_eq_false', Bool.and_eq_false_iff, Bool.or_eq_false_iff, Bool.not_true, Bool.not_false, Int.not_lt, Int.not_le, Decidable.not_not, ne_eq] at hb)
  · have hlt : j < x.manies.length := by simpa using hb
    have hr := (hx.manies).cell j hlt
    have hd := drop_step hlt
    refine NEED.mk ⟨hr.ne, by omega, by omega⟩ ?_
    rw [hd, List.any_cons] at hI
    (repeat apply EX.in)
    refine NEED.mk (by first | exact (ReadsAt.sub hr (3) (by simp) rfl).up | exact ReadsAt.sub hr (3) (by simp) rfl) ?_
    refine IFF.mk (fun hb => ?_) (fun hb => ?_) <;> (try simp only [decide_eq_true_eq, decide_eq_false_iff_not, Bool.and_eq_true, Bool.or_eq_true, Bool.not_eq_true', Bool.not_eq_false', Bool.and_eq_false_iff, Bool.or_eq_false_iff, Bool.not_true, Bool.not_false, Int.not_lt, Int.not_le, Decidable.not_not, ne_eq] at hb)
    · exact ⟨by rw [usesF, hI]; simp [hb], rfl⟩
    · refine NEED.mk (by unfold inI64; omega) ?_
      refine NEED.mk ⟨rfl, rfl⟩ ?_
      exact hag hlt (by rw [hI]; simp [hb])
  have hd := drop_end (j := j) (l := x.manies) (by simpa using hb)
  rw [hd, List.any_nil] at hI
  exact ⟨by rw [usesF, hw, hn, hI]; rfl, rfl⟩
theorem rComesOf_ok {b : Bok} {M L : Mem} (hb : b.Ok M) (to : ByteArray) : ∀ (n : Nat) (a : ByteArray), n ≤ 9223372036854775807 → Pure Tryd.prog 26 #[b.toV, .string to, .string a, .int .i64 (n : Int)] M L (.bool (comesF b.rules to n a)) := by
  intro n
  induction n with
  | zero =>
    intro a hn
    refine Pure.of (rComesOf_spec ?_)
    unfold vc_rComesOf
    refine LOOP.to 0 (fun _ => True) trivial ?_
    intro j again hj hI hag
    (repeat apply EX.in)
    refine NEED.mk ⟨rfl, rfl⟩ ?_
    refine IFF.no' (by simp) ⟨rfl, rfl⟩
  | succ n ih =>
    intro a hn
    refine Pure.of (rComesOf_spec ?_)
    unfold vc_rComesOf
    have hlen := hb.rules.len
    generalize hG : (fun x : Rul => decide (x.etype ≠ emptyS) && usesF x a && (decide (x.etype = to) || comesF b.rules to n x.etype)) = G
    have hc : comesF b.rules to (n + 1) a = b.rules.any G := by rw [comesF, hG]
    rw [hc]
    refine LOOP.to b.rules.length (fun j => b.rules.any G = (b.rules.drop j).any G) (by simp) ?_
    intro j again hj hI hag
    (repeat apply EX.in)
    refine NEED.mk ⟨rfl, rfl⟩ ?_
    refine IFF.mk (fun hb => ?_) (fun hb => ?_) <;> (try simp only [decide_eq_true_eq, decide_eq_false_iff_not, Bool.and_eq_true, Bool.or_eq_true, Bool.not_eq_true', Bool.not_eq_false', Bool.and_eq_false_iff, Bool.or_eq_false_iff, Bool.not_true, Bool.not_false, Int.not_lt, Int.not_le, Decidable.not_not, ne_eq] at hb)
    · obtain ⟨hb1, hb2⟩ := hb
      have hlt : j < b.rules.length := by omega
      have hr := (‹b.Ok M›).rules.cell j hlt
      have hd := drop_step hlt
      rw [hd, List.any_cons] at hI
      have hgj : G b.rules[j] = (decide (b.rules[j].etype ≠ emptyS) && usesF b.rules[j] a && (decide (b.rules[j].etype = to) || comesF b.rules to n b.rules[j].etype)) := by rw [← hG]
      have hxo := (‹b.Ok M›).rule _ (List.getElem_mem hlt)
      have no : G b.rules[j] = false → again [.int .i64 ((j : Int) + 1)] [] M L := fun h0 => hag hlt (by rw [hI, h0]; rfl)
      have yes : G b.rules[j] = true → (Value.bool true = .bool (b.rules.any G)) ∧ L = L := fun h0 => ⟨by rw [hI, h0]; rfl, rfl⟩
      refine NEED.mk ⟨hr.ne, by omega, by omega⟩ ?_
      (repeat apply EX.in)
      refine NEED.mk (by first | exact hr.up | exact hr) ?_
      refine IFF.mk (fun hb => ?_) (fun hb => ?_) <;> (try simp only [decide_eq_true_eq, decide_eq_false_iff_not, Bool.and_eq_true, Bool.or_eq_true, Bool.not_eq_true', Bool.not_eq_false', Bool.and_eq_false_iff, Bool.or_eq_false_iff, Bool.not_true, Bool.not_false, Int.not_lt, Int.not_le, Decidable.not_not, ne_eq] at hb)
      · refine IFF.t ?_
        refine NEED.mk (by unfold inI64; omega) ?_
        refine NEED.mk ⟨rfl, rfl⟩ ?_
        exact no (by rw [hgj]; simp [hb, emptyS])
      have hne := hb
      refine CALL.pure (rSpeaksOf_ok (x := b.rules[j]) (s := a) hxo) ?_
      (repeat apply EX.in)
      refine NEED.mk rfl ?_
      refine IFF.mk (fun hb => ?_) (fun hb => ?_) <;> (try simp only [decide_eq_true_eq, decide_eq_false_iff_not, Bool.and_eq_true, Bool.or_eq_true, Bool.not_eq_true', Bool.not_eq_false', Bool.and_eq_false_iff, Bool.or_eq_false_iff, Bool.not_true, Bool.not_false, Int.not_lt, Int.not_le, Decidable.not_not, ne_eq] at hb)
      · refine NEED.mk (by unfold inI64; omega) ?_
        refine NEED.mk ⟨rfl, rfl⟩ ?_
        exact no (by rw [hgj, hb]; simp)
      have hus := hb
      refine NEED.mk (fun _ => by unfold inI64; omega) ?_
      refine IFF.mk (fun hb => ?_) (fun hb => ?_) <;> (try simp only [decide_eq_true_eq, decide_eq_false_iff_not, Bool.and_eq_true, Bool.or_eq_true, Bool.not_eq_true', Bool.not_eq_false', Bool.and_eq_false_iff, Bool.or_eq_false_iff, Bool.not_true, Bool.not_false, Int.not_lt, Int.not_le, Decidable.not_not, ne_eq] at hb)
      · refine IFF.t (yes ?_)
        rw [hgj, hus]; simp [hb, show b.rules[j].etype ≠ emptyS from hne]; rw [← hb]; exact hne
      have hnt := hb
      rw [show ((n + 1 : Nat) : Int) - 1 = (n : Int) by omega]
      refine CALL.pure (ih b.rules[j].etype (by omega)) ?_
      (repeat apply EX.in)
      refine NEED.mk rfl ?_
      have hgj' : G b.rules[j] = comesF b.rules to n b.rules[j].etype := by
        rw [hgj, hus]; simp [hnt, show b.rules[j].etype ≠ emptyS from hne]
      refine IFF.mk (fun hb => ?_) (fun hb => ?_) <;> (try simp only [decide_eq_true_eq, decide_eq_false_iff_not, Bool.and_eq_true, Bool.or_eq_true, Bool.not_eq_true', Bool.not_eq_false', Bool.and_eq_false_iff, Bool.or_eq_false_iff, Bool.not_true, Bool.not_false, Int.not_lt, Int.not_le, Decidable.not_not, ne_eq] at hb)
      · exact yes (by rw [hgj', hb])
      · refine NEED.mk (by unfold inI64; omega) ?_
        refine NEED.mk ⟨rfl, rfl⟩ ?_
        exact no (by rw [hgj', hb])
    · have hd := drop_end (j := j) (l := b.rules) (by omega)
      exact ⟨by rw [hI, hd]; rfl, rfl⟩
end Go.Proofs.YthaamalgeieijabDoor
