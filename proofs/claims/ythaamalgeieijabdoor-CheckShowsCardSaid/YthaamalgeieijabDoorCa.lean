/- Contracts of the small functions: names, values, types, fields, options, kept words. No condition. -/
import Derived.Test.YthaamalgeieijabDoorFa
import Derived.Test.YthaamalgeieijabDoorVcR
import Derived.Test.YthaamalgeieijabDoorVcP
set_option linter.unusedVariables false
set_option linter.unusedSimpArgs false
namespace Go.Proofs.YthaamalgeieijabDoor
open Go

theorem rIn_ok {a b c : Int} {M L : Mem} : Pure Tryd.prog 45 #[.int .i64 a, .int .i64 b, .int .i64 c] M L (.bool (decide (b ≤ a) && decide (a ≤ c))) :=
  Pure.of (rIn_spec ⟨rfl, rfl⟩)
theorem vName_ok {s : ByteArray} {M L : Mem} : Pure Tryd.prog 32 #[.string s] M L (.int .i64 (nameF s)) := by
  refine Pure.of (vName_spec ?_)
  unfold vc_vName
  refine IFF.mk (fun hb => ?_) (fun hb => ?_) <;> (try simp only [decide_eq_true_eq, decide_eq_false_iff_not, Bool.and_eq_true, Bool.or_eq_true, Bool.not_eq_true', Bool.not_eq_false', Bool.and_eq_false_iff, Bool.or_eq_false_iff, Bool.not_true, Bool.not_false, Int.not_lt, Int.not_le, Decidable.not_not, ne_eq] at hb)
  · grind [nameF]
  · have h10 : s.size ≤ 10 := by (try simp at hb); omega
    refine LOOP.to s.size (fun i => ∀ j, j < i → okB s j = true) (fun j hj => by omega) ?_
    intro j again hj hI hag
    (repeat apply EX.in)
    refine NEED.mk ⟨rfl, rfl⟩ ?_
    refine IFF.mk (fun hb => ?_) (fun hb => ?_) <;> (try simp only [decide_eq_true_eq, decide_eq_false_iff_not, Bool.and_eq_true, Bool.or_eq_true, Bool.not_eq_true', Bool.not_eq_false', Bool.and_eq_false_iff, Bool.or_eq_false_iff, Bool.not_true, Bool.not_false, Int.not_lt, Int.not_le, Decidable.not_not, ne_eq] at hb)
    · have hb' : j < s.size := by simpa using hb
      refine NEED.mk (by omega) (NEED.mk (fun _ => by omega) (NEED.mk (fun _ => by omega) (NEED.mk (fun _ => by omega) ?_)))
      refine IFF.mk (fun hb => ?_) (fun hb => ?_) <;> (try simp only [decide_eq_true_eq, decide_eq_false_iff_not, Bool.and_eq_true, Bool.or_eq_true, Bool.not_eq_true', Bool.not_eq_false', Bool.and_eq_false_iff, Bool.or_eq_false_iff, Bool.not_true, Bool.not_false, Int.not_lt, Int.not_le, Decidable.not_not, ne_eq] at hb)
      · refine ⟨?_, rfl⟩
        have : okB s j = false := by simp [okB] at hb ⊢; omega
        grind [nameF]
      · refine NEED.mk (by unfold inI64; omega) ?_
        refine NEED.mk ⟨rfl, rfl⟩ ?_
        refine hag hb' fun i hi => ?_
        by_cases hij : i = j
        · subst hij; simp [okB] at hb ⊢; omega
        · exact hI i (by omega)
    · refine ⟨?_, rfl⟩
      grind [nameF]
theorem rNameFault_ok {s : ByteArray} {M L : Mem} : Pure Tryd.prog 44 #[.string s] M L (.int .i64 (nameF s)) := by
  refine Pure.of (rNameFault_spec ?_)
  unfold vc_rNameFault
  refine CALL.pure (rIn_ok) ?_
  (repeat apply EX.in)
  refine NEED.mk rfl ?_
  refine IFF.mk (fun hb => ?_) (fun hb => ?_) <;> (try simp only [decide_eq_true_eq, decide_eq_false_iff_not, Bool.and_eq_true, Bool.or_eq_true, Bool.not_eq_true', Bool.not_eq_false', Bool.and_eq_false_iff, Bool.or_eq_false_iff, Bool.not_true, Bool.not_false, Int.not_lt, Int.not_le, Decidable.not_not, ne_eq] at hb)
  · grind [nameF]
  · have h10 : s.size ≤ 10 := by (try simp at hb); omega
    refine LOOP.to s.size (fun i => ∀ j, j < i → okB s j = true) (fun j hj => by omega) ?_
    intro j again hj hI hag
    (repeat apply EX.in)
    refine NEED.mk ⟨rfl, rfl⟩ ?_
    refine IFF.mk (fun hb => ?_) (fun hb => ?_) <;> (try simp only [decide_eq_true_eq, decide_eq_false_iff_not, Bool.and_eq_true, Bool.or_eq_true, Bool.not_eq_true', Bool.not_eq_false', Bool.and_eq_false_iff, Bool.or_eq_false_iff, Bool.not_true, Bool.not_false, Int.not_lt, Int.not_le, Decidable.not_not, ne_eq] at hb)
    · have hb' : j < s.size := by simpa using hb
      refine NEED.mk (by omega) ?_
      simp only [show Int.toNat (j : Int) = j from rfl, wrap_byte]
      refine CALL.pure (rIn_ok) ?_
      (repeat apply EX.in)
      refine NEED.mk rfl ?_
      refine NEED.mk (fun _ => by omega) ?_
      have yes : okB s j = true → again [.int .i64 ((j : Int) + 1)] [] M L := fun h => hag hb' fun i hi => by
        by_cases hij : i = j
        · subst hij; exact h
        · exact hI i (by omega)
      have no : okB s j = false → (Value.int .i64 4 = .int .i64 (nameF s)) ∧ L = L := fun h => ⟨by grind [nameF], rfl⟩
      repeat' (first
            | refine IFF.t ?_
            | refine IFF.f ?_
            | (refine IFF.mk (fun hb => ?_) (fun hb => ?_) <;> (try simp only [decide_eq_true_eq, decide_eq_false_iff_not, Bool.and_eq_true, Bool.or_eq_true, Bool.not_eq_true', Bool.not_eq_false', Bool.and_eq_false_iff, Bool.or_eq_false_iff, Bool.not_true, Bool.not_false, Int.not_lt, Int.not_le, Decidable.not_not, ne_eq] at hb))
            | refine CALL.pure (rIn_ok) ?_
            | refine NEED.mk ⟨rfl, rfl⟩ ?_
            | refine NEED.mk rfl ?_
            | refine EX.in _ (NEED.mk rfl ?_)
            | refine EX.in _ (EX.in _ (NEED.mk rfl ?_))
            | refine EX.in _ (EX.in _ (EX.in _ (NEED.mk rfl ?_)))
            | refine NEED.mk ⟨trivial, trivial⟩ ?_
            | refine NEED.mk (by unfold inI64; omega) ?_
            | fail)
      all_goals first | exact no (by simp [okB] at *; omega) | exact yes (by simp [okB] at *; omega)
    · refine ⟨?_, rfl⟩
      grind [nameF]
theorem vCheck_ok {v : Vl} {M L : Mem} : Pure Tryd.prog 77 #[v.toV] M L (.int .i64 (valF v)) := by
  refine Pure.of (vCheck_spec ?_)
  unfold vc_vCheck
  repeat' (first
        | refine IFF.t ?_
        | refine IFF.f ?_
        | (refine IFF.mk (fun hb => ?_) (fun hb => ?_) <;> (try simp only [decide_eq_true_eq, decide_eq_false_iff_not, Bool.and_eq_true, Bool.or_eq_true, Bool.not_eq_true', Bool.not_eq_false', Bool.and_eq_false_iff, Bool.or_eq_false_iff, Bool.not_true, Bool.not_false, Int.not_lt, Int.not_le, Decidable.not_not, ne_eq] at hb))
        | refine NEED.mk ⟨rfl, rfl⟩ ?_
        | refine NEED.mk rfl ?_
        | refine EX.in _ (NEED.mk rfl ?_)
        | refine EX.in _ (EX.in _ (NEED.mk rfl ?_))
        | refine EX.in _ (EX.in _ (EX.in _ (NEED.mk rfl ?_)))
        | refine NEED.mk ⟨trivial, trivial⟩ ?_
        | refine NEED.mk (by unfold inI64; omega) ?_
        | fail)
  all_goals (refine ⟨?_, rfl⟩; grind [valF])
theorem rValueFault_ok {v : Vl} {M L : Mem} : Pure Tryd.prog 80 #[v.toV] M L (.int .i64 (valF v)) := by
  refine Pure.of (rValueFault_spec ?_)
  unfold vc_rValueFault
  repeat' (first
        | refine IFF.t ?_
        | refine IFF.f ?_
        | (refine IFF.mk (fun hb => ?_) (fun hb => ?_) <;> (try simp only [decide_eq_true_eq, decide_eq_false_iff_not, Bool.and_eq_true, Bool.or_eq_true, Bool.not_eq_true', Bool.not_eq_false', Bool.and_eq_false_iff, Bool.or_eq_false_iff, Bool.not_true, Bool.not_false, Int.not_lt, Int.not_le, Decidable.not_not, ne_eq] at hb))
        | refine CALL.pure (rIn_ok) ?_
        | refine NEED.mk ⟨rfl, rfl⟩ ?_
        | refine NEED.mk rfl ?_
        | refine EX.in _ (NEED.mk rfl ?_)
        | refine EX.in _ (EX.in _ (NEED.mk rfl ?_))
        | refine EX.in _ (EX.in _ (EX.in _ (NEED.mk rfl ?_)))
        | refine NEED.mk ⟨trivial, trivial⟩ ?_
        | refine NEED.mk (by unfold inI64; omega) ?_
        | fail)
  all_goals (refine ⟨?_, rfl⟩; have : emptyS.size = 0 := rfl; grind [valF])
theorem tRelation_ok {r : Int} {M L : Mem} : Pure Tryd.prog 76 #[.int .i64 r] M L (.bool (decide (1 ≤ r) && decide (r ≤ 13))) :=
  Pure.of (tRelation_spec ⟨rfl, rfl⟩)
theorem tCheckOption_ok {o : Opt} {M L : Mem} : Pure Tryd.prog 61 #[o.toV] M L (.int .i64 (optF o)) := by
  refine Pure.of (tCheckOption_spec ?_)
  unfold vc_tCheckOption
  repeat' (first
        | refine IFF.t ?_
        | refine IFF.f ?_
        | (refine IFF.mk (fun hb => ?_) (fun hb => ?_) <;> (try simp only [decide_eq_true_eq, decide_eq_false_iff_not, Bool.and_eq_true, Bool.or_eq_true, Bool.not_eq_true', Bool.not_eq_false', Bool.and_eq_false_iff, Bool.or_eq_false_iff, Bool.not_true, Bool.not_false, Int.not_lt, Int.not_le, Decidable.not_not, ne_eq] at hb))
        | refine CALL.pure (tRelation_ok) ?_
        | refine NEED.mk ⟨rfl, rfl⟩ ?_
        | refine NEED.mk rfl ?_
        | refine EX.in _ (NEED.mk rfl ?_)
        | refine EX.in _ (EX.in _ (NEED.mk rfl ?_))
        | refine EX.in _ (EX.in _ (EX.in _ (NEED.mk rfl ?_)))
        | refine NEED.mk ⟨trivial, trivial⟩ ?_
        | refine NEED.mk (by unfold inI64; omega) ?_
        | fail)
  all_goals (refine ⟨?_, rfl⟩; grind [optF])
theorem rOptionFault_ok {o : Opt} {M L : Mem} : Pure Tryd.prog 73 #[o.toV] M L (.int .i64 (optF o)) := by
  refine Pure.of (rOptionFault_spec ?_)
  unfold vc_rOptionFault
  repeat' (first
        | refine IFF.t ?_
        | refine IFF.f ?_
        | (refine IFF.mk (fun hb => ?_) (fun hb => ?_) <;> (try simp only [decide_eq_true_eq, decide_eq_false_iff_not, Bool.and_eq_true, Bool.or_eq_true, Bool.not_eq_true', Bool.not_eq_false', Bool.and_eq_false_iff, Bool.or_eq_false_iff, Bool.not_true, Bool.not_false, Int.not_lt, Int.not_le, Decidable.not_not, ne_eq] at hb))
        | refine CALL.pure (rIn_ok) ?_
        | refine NEED.mk ⟨rfl, rfl⟩ ?_
        | refine NEED.mk rfl ?_
        | refine EX.in _ (NEED.mk rfl ?_)
        | refine EX.in _ (EX.in _ (NEED.mk rfl ?_))
        | refine EX.in _ (EX.in _ (EX.in _ (NEED.mk rfl ?_)))
        | refine NEED.mk ⟨trivial, trivial⟩ ?_
        | refine NEED.mk (by unfold inI64; omega) ?_
        | fail)
  all_goals (refine ⟨?_, rfl⟩; grind [optF])
theorem slIndexString_ok {A : Option Addr} {n c : Nat} {xs : List ByteArray} {s : ByteArray} {M L : Mem} (hn : n = xs.length) (h : Row M Value.string 1 A c xs) :
    Pure Tryd.prog 54 #[.slice A n c, .string s] M L (.int .i64 (idxF (fun x => decide (x = s)) 0 xs)) := by
  subst hn
  refine Pure.of (slIndexString_spec ?_)
  unfold vc_slIndexString
  refine LOOP.to xs.length (fun j => idxF (fun x => decide (x = s)) 0 xs = idxF (fun x => decide (x = s)) j (xs.drop j)) rfl ?_
  intro j again hj hI hag
  have hlen := h.len
  rw [hI]
  (repeat apply EX.in)
  refine NEED.mk ⟨rfl, rfl⟩ ?_
  refine IFF.mk (fun hb => ?_) (fun hb => ?_) <;> (try simp only [decide_eq_true_eq, decide_eq_false_iff_not, Bool.and_eq_true, Bool.or_eq_true, Bool.not_eq_true', Bool.not_eq_false', Bool.and_eq_false_iff, Bool.or_eq_false_iff, Bool.not_true, Bool.not_false, Int.not_lt, Int.not_le, Decidable.not_not, ne_eq] at hb)
  · have hlt : j < xs.length := by simpa using hb
    have hr := h.cell j hlt
    have hd := drop_step hlt
    refine NEED.mk ⟨hr.ne, by omega, by omega⟩ (EX.in _ (NEED.mk hr.up ?_))
    refine IFF.mk (fun hb => ?_) (fun hb => ?_) <;> (try simp only [decide_eq_true_eq, decide_eq_false_iff_not, Bool.and_eq_true, Bool.or_eq_true, Bool.not_eq_true', Bool.not_eq_false', Bool.and_eq_false_iff, Bool.or_eq_false_iff, Bool.not_true, Bool.not_false, Int.not_lt, Int.not_le, Decidable.not_not, ne_eq] at hb)
    · refine ⟨?_, rfl⟩; grind [idxF]
    · refine NEED.mk (by unfold inI64; omega) ?_
      refine NEED.mk ⟨rfl, rfl⟩ ?_
      exact hag hlt (by grind [idxF])
  · have hd := drop_end (j := j) (l := xs) (by simpa using hb)
    refine ⟨?_, rfl⟩; grind [idxF]
theorem slContainsString_ok {A : Option Addr} {n c : Nat} {xs : List ByteArray} {s : ByteArray} {M L : Mem} (hn : n = xs.length) (h : Row M Value.string 1 A c xs) :
    Pure Tryd.prog 33 #[.slice A n c, .string s] M L (.bool (xs.any fun x => decide (x = s))) := by
  refine Pure.of (slContainsString_spec ?_)
  unfold vc_slContainsString
  refine CALL.pure (slIndexString_ok hn h) ?_
  (repeat apply EX.in)
  refine NEED.mk rfl ?_
  exact ⟨by rw [idxF_any], rfl⟩
theorem pKept_ok {s : ByteArray} {M L : Mem} (h : Tab M) : Pure Tryd.prog 15 #[.string s] M L (.bool (keptF s)) := by
  refine Pure.of (pKept_spec ?_)
  unfold vc_pKept
  refine NEED.mk (by simp) ?_
  refine CALL.pure (slContainsString_ok (by rfl) h.kept) ?_
  (repeat apply EX.in)
  refine NEED.mk rfl ?_
  refine NEED.mk (by simp) ?_
  repeat' (first
        | refine IFF.t ?_
        | refine IFF.f ?_
        | (refine IFF.mk (fun hb => ?_) (fun hb => ?_) <;> (try simp only [decide_eq_true_eq, decide_eq_false_iff_not, Bool.and_eq_true, Bool.or_eq_true, Bool.not_eq_true', Bool.not_eq_false', Bool.and_eq_false_iff, Bool.or_eq_false_iff, Bool.not_true, Bool.not_false, Int.not_lt, Int.not_le, Decidable.not_not, ne_eq] at hb))
        | refine CALL.pure (slContainsString_ok (by rfl) h.rels) ?_
        | refine NEED.mk ⟨rfl, rfl⟩ ?_
        | refine NEED.mk rfl ?_
        | refine EX.in _ (NEED.mk rfl ?_)
        | refine EX.in _ (EX.in _ (NEED.mk rfl ?_))
        | refine EX.in _ (EX.in _ (EX.in _ (NEED.mk rfl ?_)))
        | refine NEED.mk ⟨trivial, trivial⟩ ?_
        | refine NEED.mk (by unfold inI64; omega) ?_
        | fail)
  all_goals (refine ⟨?_, rfl⟩; grind [keptF, relW, relW1_empty])
theorem cName_ok {s : ByteArray} {M L : Mem} (h : Tab M) : Pure Tryd.prog 34 #[.string s] M L (.int .i64 (freeF s)) := by
  refine Pure.of (cName_spec ?_)
  unfold vc_cName
  repeat' (first
        | refine IFF.t ?_
        | refine IFF.f ?_
        | (refine IFF.mk (fun hb => ?_) (fun hb => ?_) <;> (try simp only [decide_eq_true_eq, decide_eq_false_iff_not, Bool.and_eq_true, Bool.or_eq_true, Bool.not_eq_true', Bool.not_eq_false', Bool.and_eq_false_iff, Bool.or_eq_false_iff, Bool.not_true, Bool.not_false, Int.not_lt, Int.not_le, Decidable.not_not, ne_eq] at hb))
        | refine CALL.pure (vName_ok) ?_
        | refine CALL.pure (pKept_ok h) ?_
        | refine NEED.mk ⟨rfl, rfl⟩ ?_
        | refine NEED.mk rfl ?_
        | refine EX.in _ (NEED.mk rfl ?_)
        | refine EX.in _ (EX.in _ (NEED.mk rfl ?_))
        | refine EX.in _ (EX.in _ (EX.in _ (NEED.mk rfl ?_)))
        | refine NEED.mk ⟨trivial, trivial⟩ ?_
        | refine NEED.mk (by unfold inI64; omega) ?_
        | fail)
  all_goals (refine ⟨?_, rfl⟩; grind [freeF])
theorem rRelationWords_ok {M L : Mem} : PSpec Tryd.prog 30 #[] M L fun v M' L' => (∃ A, v = .slice A 14 14 ∧ Row M' Value.string 1 A 14 relW) ∧ L' = L := by
  refine rRelationWords_spec ?_
  unfold vc_rRelationWords
  refine ⟨fun g h1 h2 => ⟨⟨_, rfl, ?_⟩, rfl⟩⟩
  exact Row.strs (n := g) (xs := relW) (t := 9) (f := (0, 0)) (Mem.upd_self _ _ _) (by decide)
theorem rRelationOf_ok {s : ByteArray} {M L : Mem} : Pure Tryd.prog 46 #[.string s] M L (.int .i64 (1 + idxF (fun x => decide (x = s)) 0 relW1)) := by
  refine Pure.of (rRelationOf_spec ?_)
  unfold vc_rRelationOf
  refine CALL.post rRelationWords_ok ?_
  rintro v M' L' hM ⟨⟨A, rfl, h⟩, rfl⟩
  (repeat apply EX.in)
  refine NEED.mk rfl ?_
  refine LOOP.at (fun j : Nat => [.int .i64 ((j : Int) + 1)]) (fun j => j ≤ 13 ∧ idxF (fun x => decide (x = s)) 0 relW1 = idxF (fun x => decide (x = s)) j (relW1.drop j)) (fun j => 13 - j) 0 rfl ⟨by omega, rfl⟩ ?_
  intro j again ⟨hj, hI⟩ hag
  rw [hI]
  (repeat apply EX.in)
  refine NEED.mk ⟨rfl, rfl⟩ ?_
  have hl : relW1.length = 13 := rfl
  refine IFF.mk (fun hb => ?_) (fun hb => ?_) <;> (try simp only [decide_eq_true_eq, decide_eq_false_iff_not, Bool.and_eq_true, Bool.or_eq_true, Bool.not_eq_true', Bool.not_eq_false', Bool.and_eq_false_iff, Bool.or_eq_false_iff, Bool.not_true, Bool.not_false, Int.not_lt, Int.not_le, Decidable.not_not, ne_eq] at hb)
  · have hlt : j < relW1.length := by (try simp at hb); omega
    have hr := h.cell (j + 1) (by show j + 1 < 14; omega)
    have hd := drop_step hlt
    refine NEED.mk ⟨hr.ne, by omega, by (try simp at hb); omega⟩ (EX.in _ (NEED.mk hr.up ?_))
    have he : relW[j + 1]'(by show j + 1 < 14; omega) = relW1[j] := rfl
    refine IFF.mk (fun hb => ?_) (fun hb => ?_) <;> (try simp only [decide_eq_true_eq, decide_eq_false_iff_not, Bool.and_eq_true, Bool.or_eq_true, Bool.not_eq_true', Bool.not_eq_false', Bool.and_eq_false_iff, Bool.or_eq_false_iff, Bool.not_true, Bool.not_false, Int.not_lt, Int.not_le, Decidable.not_not, ne_eq] at hb)
    · refine ⟨?_, rfl⟩
      rw [he] at hb
      rw [hd, idxF, if_pos (by simpa using hb)]
      congr 1; omega
    · refine NEED.mk (by unfold inI64; omega) ?_
      refine NEED.mk ⟨rfl, rfl⟩ ?_
      refine hag (j + 1) ⟨by omega, ?_⟩ (by omega)
      rw [he] at hb
      rw [hI, hd, idxF, if_neg (by simpa using hb)]
  · have hd := drop_end (j := j) (l := relW1) (by (try simp at hb); omega)
    refine ⟨?_, rfl⟩; rw [hd]; rfl
theorem rKeptWord_ok {s : ByteArray} {M L : Mem} : Pure Tryd.prog 23 #[.string s] M L (.bool (keptF s)) := by
  refine Pure.of (rKeptWord_spec ?_)
  unfold vc_rKeptWord
  refine ⟨fun g h1 h2 => ?_⟩
  have h : Row (M.upd g _) Value.string 1 (some ⟨g, 0, none⟩) 17 keptW := Row.strs (n := g) (xs := keptW) (t := 9) (f := (0, 0)) (Mem.upd_self _ _ _) (by decide)
  refine LOOP.to 17 (fun j => keptW.any (fun x => decide (x = s)) = (keptW.drop j).any (fun x => decide (x = s))) rfl ?_
  intro j again hj hI hag
  (repeat apply EX.in)
  refine NEED.mk ⟨rfl, rfl⟩ ?_
  have hl : keptW.length = 17 := rfl
  refine IFF.mk (fun hb => ?_) (fun hb => ?_) <;> (try simp only [decide_eq_true_eq, decide_eq_false_iff_not, Bool.and_eq_true, Bool.or_eq_true, Bool.not_eq_true', Bool.not_eq_false', Bool.and_eq_false_iff, Bool.or_eq_false_iff, Bool.not_true, Bool.not_false, Int.not_lt, Int.not_le, Decidable.not_not, ne_eq] at hb)
  · have hlt : j < keptW.length := by (try simp at hb); omega
    have hr := h.cell j hlt
    have hd := drop_step hlt
    refine NEED.mk ⟨hr.ne, by omega, by (try simp at hb); omega⟩ (EX.in _ (NEED.mk hr.up ?_))
    refine IFF.mk (fun hb => ?_) (fun hb => ?_) <;> (try simp only [decide_eq_true_eq, decide_eq_false_iff_not, Bool.and_eq_true, Bool.or_eq_true, Bool.not_eq_true', Bool.not_eq_false', Bool.and_eq_false_iff, Bool.or_eq_false_iff, Bool.not_true, Bool.not_false, Int.not_lt, Int.not_le, Decidable.not_not, ne_eq] at hb)
    · refine ⟨?_, rfl⟩; grind [keptF]
    · refine NEED.mk (by unfold inI64; omega) ?_
      refine NEED.mk ⟨rfl, rfl⟩ ?_
      exact hag (by omega) (by grind)
  · have hd := drop_end (j := j) (l := keptW) (by (try simp at hb); omega)
    refine CALL.pure (rRelationOf_ok) ?_
    (repeat apply EX.in)
    refine NEED.mk rfl ?_
    refine ⟨?_, rfl⟩
    have := idxF_any (p := fun x => decide (x = s)) (l := relW1) (j := 0)
    simp only [keptF, hI, hd, List.any_nil, Bool.false_or, ← this]
    congr 1
    simp only [decide_eq_decide]
    omega
theorem rFreeName_ok {s : ByteArray} {M L : Mem} : Pure Tryd.prog 47 #[.string s] M L (.int .i64 (freeF s)) := by
  refine Pure.of (rFreeName_spec ?_)
  unfold vc_rFreeName
  repeat' (first
        | refine IFF.t ?_
        | refine IFF.f ?_
        | (refine IFF.mk (fun hb => ?_) (fun hb => ?_) <;> (try simp only [decide_eq_true_eq, decide_eq_false_iff_not, Bool.and_eq_true, Bool.or_eq_true, Bool.not_eq_true', Bool.not_eq_false', Bool.and_eq_false_iff, Bool.or_eq_false_iff, Bool.not_true, Bool.not_false, Int.not_lt, Int.not_le, Decidable.not_not, ne_eq] at hb))
        | refine CALL.pure (rNameFault_ok) ?_
        | refine CALL.pure (rKeptWord_ok) ?_
        | refine NEED.mk ⟨rfl, rfl⟩ ?_
        | refine NEED.mk rfl ?_
        | refine EX.in _ (NEED.mk rfl ?_)
        | refine EX.in _ (EX.in _ (NEED.mk rfl ?_))
        | refine EX.in _ (EX.in _ (EX.in _ (NEED.mk rfl ?_)))
        | refine NEED.mk ⟨trivial, trivial⟩ ?_
        | refine NEED.mk (by unfold inI64; omega) ?_
        | fail)
  all_goals (refine ⟨?_, rfl⟩; grind [freeF])
theorem rSmallLetter_ok {c : Nat} {M L : Mem} (hc : c ≤ 255) : Pure Tryd.prog 27 #[.int .u8 (c : Int)] M L (.bool (decide (97 ≤ c) && decide (c ≤ 122))) := by
  refine Pure.of (rSmallLetter_spec ?_)
  unfold vc_rSmallLetter
  have : IntKind.i64.wrap (c : Int) = (c : Int) := wrap_i64_in ⟨by omega, by omega⟩
  rw [this]
  refine CALL.pure (rIn_ok) ?_
  (repeat apply EX.in)
  refine NEED.mk rfl ?_
  refine ⟨?_, rfl⟩
  have e1 : decide ((97 : Int) ≤ (c : Int)) = decide (97 ≤ c) := by simp only [decide_eq_decide]; omega
  have e2 : decide ((c : Int) ≤ 122) = decide (c ≤ 122) := by simp only [decide_eq_decide]; omega
  rw [e1, e2]
end Go.Proofs.YthaamalgeieijabDoor
