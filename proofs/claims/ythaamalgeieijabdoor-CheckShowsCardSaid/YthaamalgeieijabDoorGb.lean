/- Contracts of what makes tokens, on the reference's side: numbers, sides, conditions, patterns. No condition. -/
import Derived.Test.YthaamalgeieijabDoorGa
set_option linter.unusedVariables false
set_option linter.unusedSimpArgs false
namespace Go.Proofs.YthaamalgeieijabDoor
open Go

theorem Gives.of {M : Mem} {t : TS} {l : List Tok} {ts : List TS} (h : Has M (t :: ts)) (hl : t.l = l) : Gives M (.slice t.A t.l.length t.c) l := ⟨t, hl, rfl, h t (by simp)⟩
theorem TS.none_row {M : Mem} : Has M [⟨none, 0, []⟩] := fun t ht => by
  rw [List.mem_singleton] at ht; subst ht
  exact ⟨Nat.le_refl _, Nat.zero_le _, fun i hi => absurd hi (Nat.not_lt_zero i)⟩
theorem Gives.one {M L : Mem} {x : Tok} {e : TypeId} {k : Nat → Mem → Prop} (hk : ∀ g M', M.le M' → Gives M' (.slice (some ⟨g, 0, none⟩) 1 1) [x] → k g M') : NEWM M L (.cells x.toV.cells e (0, 0)) k :=
  ⟨fun g hM hL => hk g _ (Mem.upd_le hM) ⟨⟨some ⟨g, 0, none⟩, 1, [x]⟩, rfl, rfl, Row.blk (n := g) (t := e) (xs := [x]) Tok.size3 (by rw [Mem.upd_self]; simp [flatV]) (by show 1 ≤ maxLen; decide)⟩⟩
theorem numT_pos {n : Int} (h : 0 ≤ n) : numT n = [numTok n] := by rw [numT, if_neg (by omega)]
theorem rNumeral_pos {n : Int} {M L : Mem} (h : 0 ≤ n) : Makes Tryd.prog 29 #[.int .i64 n] M L [numTok n] := by
  refine rNumeral_spec ?_
  unfold vc_rNumeral
  refine IFF.no' (by simp; omega) ?_
  exact Gives.one (x := numTok n) fun g M' _ hg => ⟨hg, rfl⟩
theorem rNumeral_ok {n : Int} {M L : Mem} (h1 : -4611686018427387904 ≤ n) : Makes Tryd.prog 29 #[.int .i64 n] M L (numT n) := by
  by_cases h : 0 ≤ n
  · rw [numT_pos h]; exact rNumeral_pos h
  · refine rNumeral_spec ?_
    unfold vc_rNumeral
    refine IFF.yes' (by simp; omega) ?_
    have hH : Has M [] := .nil
    refine CALL.give hH (rSpoken_ok (s := (ByteArray.mk #[45])) (l := [word (ByteArray.mk #[45])]) (by decide) (by rfl)) fun t1 M1 hM1 ht1 hH => ?_
    (repeat apply EX.in)
    refine NEED.mk rfl ?_
    refine NEED.mk (by unfold inI64; omega) ?_
    refine CALL.give hH (rNumeral_pos (n := -n) (by omega)) fun t2 M2 hM2 ht2 hH => ?_
    (repeat apply EX.in)
    refine NEED.mk rfl ?_
    refine TOKS hH ([t1, t2]) (by simp) (by simp only [List.flatMap_cons, List.flatMap_nil, List.length_append, List.length_nil, List.length_cons, ht1, ht2]; omega) fun t3 M3 hM3 ht3 hH => ?_
    (repeat apply EX.in)
    refine NEED.mk rfl ?_
    refine ⟨.of hH ?_, rfl⟩
    rw [ht3, numT, if_pos (by omega)]
    simp [ht1, ht2]
theorem rSideShown_ok {o : Opd} {M L : Mem} (hf : o.Fine) : Makes Tryd.prog 31 #[o.toV] M L (sideT o) := by
  refine rSideShown_spec ?_
  unfold vc_rSideShown
  have hH : Has M [] := .nil
  refine IFF.mk (fun hb => ?_) (fun hb => ?_) <;> (try simp only [decide_eq_true_eq, decide_eq_false_iff_not, Bool.and_eq_true, Bool.or_eq_true, Bool.not_eq_true', Bool.not_eq_false', Bool.and_eq_false_iff, Bool.or_eq_false_iff, Bool.not_true, Bool.not_false, Int.not_lt, Int.not_le, Decidable.not_not, ne_eq] at hb)
  · have hn : nameF o.field = 0 := by rcases hf with ⟨h, _⟩ | ⟨h, h2⟩ | ⟨h, _⟩ <;> first | omega | exact h2
    have := (name_chars hn).2.2.2
    refine CALL.give hH (rSpoken_ok (s := o.field) (by omega) (spoken_name hn)) fun t1 M1 hM1 ht1 hH => ?_
    (repeat apply EX.in)
    refine NEED.mk rfl ?_
    exact ⟨.of hH (by rw [ht1, sideT, if_neg (by omega), if_pos hb]), rfl⟩
  refine IFF.mk (fun hb => ?_) (fun hb => ?_) <;> (try simp only [decide_eq_true_eq, decide_eq_false_iff_not, Bool.and_eq_true, Bool.or_eq_true, Bool.not_eq_true', Bool.not_eq_false', Bool.and_eq_false_iff, Bool.or_eq_false_iff, Bool.not_true, Bool.not_false, Int.not_lt, Int.not_le, Decidable.not_not, ne_eq] at hb)
  · have hn : nameF o.var = 0 ∧ nameF o.field = 0 := by rcases hf with ⟨h, _⟩ | ⟨h, h2⟩ | ⟨h, h2⟩ <;> first | omega | exact h2
    have h1 := (name_chars hn.1).2.2.2
    have h2 := (name_chars hn.2).2.2.2
    refine NEED.mk (by omega) (NEED.mk (by rw [ByteArray.size_append]; show o.var.size + 3 + _ ≤ _; omega) ?_)
    refine CALL.give hH (rSpoken_ok (l := [word o.var, word (ByteArray.mk #[46]), word o.field]) (by rw [ByteArray.size_append, ByteArray.size_append]; show o.var.size + 3 + _ ≤ _; omega) (by
      have e : (o.var ++ (ByteArray.mk #[32, 46, 32]) ++ o.field).data.toList = o.var.data.toList ++ 32 :: 46 :: 32 :: o.field.data.toList := by simp
      rw [spokenF, e, spl_name hn.1]
      simp only [spl]
      rw [spl_name0 hn.2]
      rfl)) fun t1 M1 hM1 ht1 hH => ?_
    (repeat apply EX.in)
    refine NEED.mk rfl ?_
    exact ⟨.of hH (by rw [ht1, sideT, if_pos hb]), rfl⟩
  have hk1 : o.kind = 1 ∧ valF o.v = 0 := by rcases hf with h | ⟨h, _⟩ | ⟨h, _⟩ <;> first | omega | exact h
  refine IFF.mk (fun hb => ?_) (fun hb => ?_) <;> (try simp only [decide_eq_true_eq, decide_eq_false_iff_not, Bool.and_eq_true, Bool.or_eq_true, Bool.not_eq_true', Bool.not_eq_false', Bool.and_eq_false_iff, Bool.or_eq_false_iff, Bool.not_true, Bool.not_false, Int.not_lt, Int.not_le, Decidable.not_not, ne_eq] at hb)
  · refine CALL.give hH (rNumeral_ok (n := o.v.int) (by have := hk1.2; unfold valF at this; grind)) fun t1 M1 hM1 ht1 hH => ?_
    (repeat apply EX.in)
    refine NEED.mk rfl ?_
    exact ⟨.of hH (by rw [ht1, sideT, if_neg (by omega), if_neg (by omega), if_pos hb]), rfl⟩
  · refine Gives.one (x := ⟨3, o.v.text, 0⟩) fun g M' _ hg => ⟨?_, rfl⟩
    rw [sideT, if_neg (by omega), if_neg (by omega), if_neg hb]
    exact hg
theorem sub_size {c x : Cnd} (h : x ∈ c.subs) : SizeOf.sizeOf x < SizeOf.sizeOf c := by
  cases c
  have := List.sizeOf_lt_of_mem h
  simp [Cnd.subs] at this ⊢
  omega
theorem rConditionShown_ok : ∀ (n : Nat) (c : Cnd) {M L : Mem}, SizeOf.sizeOf c ≤ n → c.Fine → c.Ok M → (condT c).length ≤ 1099511627776 → Makes Tryd.prog 53 #[c.toV] M L (condT c) := by
  intro n
  induction n with
  | zero => intro c M L hn; cases c; simp at hn
  | succ n ih =>
    intro c M L hn hf hc hB
    refine rConditionShown_spec ?_
    unfold vc_rConditionShown
    have e := condT_eq c
    have hH : Has M [] := .nil
    refine IFF.mk (fun hb => ?_) (fun hb => ?_)
    · have hb := of_decide_eq_true hb
      obtain ⟨i, hi, hi4, hl, hr⟩ : ∃ i : Nat, c.kind = 4 + (i : Int) ∧ i < 4 ∧ c.l.Fine ∧ c.r.Fine := by
        cases hf with
        | cmp h h7 l r => exact ⟨(c.kind - 4).toNat, by omega, by omega, l, r⟩
        | not h => omega
        | many h => omega
      rw [if_neg (by omega), if_neg (by omega)] at e
      refine ⟨fun g hMg hLg => ?_⟩
      have hrow : Row (M.upd g _) Value.string 1 (some ⟨g, 0, none⟩) 4 [(ByteArray.mk #[61]), (ByteArray.mk #[47, 61]), (ByteArray.mk #[60]), (ByteArray.mk #[60, 61])] := Row.strs (n := g) (xs := [(ByteArray.mk #[61]), (ByteArray.mk #[47, 61]), (ByteArray.mk #[60]), (ByteArray.mk #[60, 61])]) (t := 9) (f := (0, 0)) (Mem.upd_self _ _ _) (by decide)
      have hH : Has (M.upd g (.cells ([(ByteArray.mk #[61]), (ByteArray.mk #[47, 61]), (ByteArray.mk #[60]), (ByteArray.mk #[60, 61])].map Value.string).toArray 9 (0, 0))) [] := .nil
      refine NEED.mk (by unfold inI64; omega) ?_
      refine NEED.mk ⟨by simp, by omega, by omega⟩ ?_
      have hcell := hrow.cell i hi4
      have hidx : (c.kind - 4).toNat = i := by omega
      rw [hidx]
      apply EX.in
      refine NEED.mk hcell.up ?_
      have hw : [(ByteArray.mk #[61]), (ByteArray.mk #[47, 61]), (ByteArray.mk #[60]), (ByteArray.mk #[60, 61])][i] = cmpW c.kind := by
        rw [hi]
        have : i = 0 ∨ i = 1 ∨ i = 2 ∨ i = 3 := by omega
        rcases this with rfl | rfl | rfl | rfl <;> rfl
      rw [hw]
      have hsp : spokenF (cmpW c.kind) = [word (cmpW c.kind)] ∧ (cmpW c.kind).size ≤ 2 := by
        rw [hi]
        have : i = 0 ∨ i = 1 ∨ i = 2 ∨ i = 3 := by omega
        rcases this with rfl | rfl | rfl | rfl <;> exact ⟨by rfl, by decide⟩
      refine CALL.give hH (rSideShown_ok hl) fun t1 M1 hM1 ht1 hH => ?_
      (repeat apply EX.in)
      refine NEED.mk rfl ?_
      refine CALL.give hH (rSpoken_ok (by omega) hsp.1) fun t2 M2 hM2 ht2 hH => ?_
      (repeat apply EX.in)
      refine NEED.mk rfl ?_
      refine CALL.give hH (rSideShown_ok hr) fun t3 M3 hM3 ht3 hH => ?_
      (repeat apply EX.in)
      refine NEED.mk rfl ?_
      rw [e] at hB
      simp only [List.length_append, List.length_cons, List.length_nil] at hB
      refine TOKS hH ([t1, t2, t3]) (by simp) (by simp only [List.flatMap_cons, List.flatMap_nil, List.length_append, List.length_nil, List.length_cons, ht1, ht2, ht3]; omega) fun t4 M4 hM4 ht4 hH => ?_
      (repeat apply EX.in)
      refine NEED.mk rfl ?_
      exact ⟨.of hH (by rw [ht4, e]; simp [ht1, ht2, ht3]), rfl⟩
    have hb := of_decide_eq_false hb
    refine IFF.mk (fun hb => ?_) (fun hb => ?_) <;> (try simp only [decide_eq_true_eq, decide_eq_false_iff_not, Bool.and_eq_true, Bool.or_eq_true, Bool.not_eq_true', Bool.not_eq_false', Bool.and_eq_false_iff, Bool.or_eq_false_iff, Bool.not_true, Bool.not_false, Int.not_lt, Int.not_le, Decidable.not_not, ne_eq] at hb)
    · rw [if_pos hb] at e
      obtain ⟨x, hs, hx⟩ : ∃ x, c.subs = [x] ∧ x.Fine := by
        cases hf with
        | cmp h => omega
        | not h hs hx => exact ⟨_, hs, hx⟩
        | many h => omega
      have hlen1 : c.subs.length = 1 := by rw [hs]; rfl
      have hx0 : c.subs[0] = x := by simp [hs]
      rw [hs] at e
      dsimp only at e
      have hr := hc.row.cell 0 (by omega)
      have hxo := hc.sub x (by rw [hs]; simp)
      rw [hx0, Nat.zero_mul] at hr
      have hsz := sub_size (c := c) (x := x) (by rw [hs]; simp)
      rw [e] at hB
      simp only [List.length_cons] at hB
      have hBx : (condT x).length ≤ (brT (decide (x.kind ≤ 2)) (condT x)).length := by unfold brT; split <;> simp <;> omega
      refine NEED.mk ⟨hr.ne, by omega, by omega⟩ ?_
      (repeat apply EX.in)
      refine NEED.mk hr.up ?_
      refine CALL.give hH (ih x (by omega) hx hxo (by omega)) fun t1 M1 hM1 ht1 hH => ?_
      (repeat apply EX.in)
      refine NEED.mk rfl ?_
      refine NEED.mk ⟨hr.ne, by omega, by omega⟩ ?_
      apply EX.in
      refine NEED.mk ((ReadsAt.sub hr 0 (by simp) rfl).mono hM1).up ?_
      refine IFF.mk (fun hb => ?_) (fun hb => ?_) <;> (try simp only [decide_eq_true_eq, decide_eq_false_iff_not, Bool.and_eq_true, Bool.or_eq_true, Bool.not_eq_true', Bool.not_eq_false', Bool.and_eq_false_iff, Bool.or_eq_false_iff, Bool.not_true, Bool.not_false, Int.not_lt, Int.not_le, Decidable.not_not, ne_eq] at hb)
      · have hbr : brT (decide (x.kind ≤ 2)) (condT x) = [word (ByteArray.mk #[40])] ++ condT x ++ [word (ByteArray.mk #[41])] := by rw [brT, if_pos (by simp; omega)]
        rw [hbr] at hB
        simp only [List.length_append, List.length_cons, List.length_nil] at hB
        refine CALL.give hH (rSpoken_ok (s := (ByteArray.mk #[40])) (l := [word (ByteArray.mk #[40])]) (by decide) (by rfl)) fun t2 M2 hM2 ht2 hH => ?_
        (repeat apply EX.in)
        refine NEED.mk rfl ?_
        refine CALL.give hH (rSpoken_ok (s := (ByteArray.mk #[41])) (l := [word (ByteArray.mk #[41])]) (by decide) (by rfl)) fun t3 M3 hM3 ht3 hH => ?_
        (repeat apply EX.in)
        refine NEED.mk rfl ?_
        refine TOKS hH ([t2, t1, t3]) (by simp) (by simp only [List.flatMap_cons, List.flatMap_nil, List.length_append, List.length_nil, List.length_cons, ht1, ht2, ht3]; omega) fun t4 M4 hM4 ht4 hH => ?_
        (repeat apply EX.in)
        refine NEED.mk rfl ?_
        refine CALL.give hH (rSpoken_ok (s := (ByteArray.mk #[110, 111, 116])) (l := [word (ByteArray.mk #[110, 111, 116])]) (by decide) (by rfl)) fun t5 M5 hM5 ht5 hH => ?_
        (repeat apply EX.in)
        refine NEED.mk rfl ?_
        refine TOKS hH ([t5, t4]) (by simp) (by simp only [List.flatMap_cons, List.flatMap_nil, List.length_append, List.length_nil, List.length_cons, ht1, ht2, ht3, ht4, ht5]; omega) fun t6 M6 hM6 ht6 hH => ?_
        (repeat apply EX.in)
        refine NEED.mk rfl ?_
        exact ⟨.of hH (by rw [ht6, e, hbr]; simp [ht1, ht2, ht3, ht4, ht5]), rfl⟩
      · have hbr : brT (decide (x.kind ≤ 2)) (condT x) = condT x := by rw [brT, if_neg (by simp; omega)]
        rw [hbr] at hB
        refine CALL.give hH (rSpoken_ok (s := (ByteArray.mk #[110, 111, 116])) (l := [word (ByteArray.mk #[110, 111, 116])]) (by decide) (by rfl)) fun t2 M2 hM2 ht2 hH => ?_
        (repeat apply EX.in)
        refine NEED.mk rfl ?_
        refine TOKS hH ([t2, t1]) (by simp) (by simp only [List.flatMap_cons, List.flatMap_nil, List.length_append, List.length_nil, List.length_cons, ht1, ht2]; omega) fun t3 M3 hM3 ht3 hH => ?_
        (repeat apply EX.in)
        refine NEED.mk rfl ?_
        exact ⟨.of hH (by rw [ht3, e, hbr]; simp [ht1, ht2]), rfl⟩
    rw [if_neg hb] at e
    obtain ⟨hk12, hall⟩ : (c.kind = 1 ∨ c.kind = 2) ∧ ∀ x ∈ c.subs, x.Fine := by
      cases hf with
      | cmp h => omega
      | not h => omega
      | many h hs => exact ⟨h, hs⟩
    rw [if_pos hk12] at e
    rw [e] at hB ⊢
    have hlen := hc.row.len
    refine LOOP.gen (fun x : TS × Nat × Mem => ([.slice x.1.A x.1.l.length x.1.c, .int .i64 (x.2.1 : Int)], [], x.2.2, L)) (fun x => x.2.1 ≤ c.subs.length ∧ Has x.2.2 [x.1] ∧ subsT c.kind true c.subs = x.1.l ++ subsT c.kind (decide (x.2.1 = 0)) (c.subs.drop x.2.1)) (fun x => c.subs.length - x.2.1)
      (⟨none, 0, []⟩, 0, M) rfl ⟨Nat.zero_le _, TS.none_row, rfl⟩ ?_
    rintro ⟨t, j, M1⟩ again hM1 ⟨hj, hH, hI⟩ hag
    dsimp only at hM1 hj hH hI hag ⊢
    have hc1 := hc.mono hM1
    (repeat apply EX.in)
    refine NEED.mk ⟨rfl, rfl⟩ ?_
    refine IFF.mk (fun hb => ?_) (fun hb => ?_) <;> (try simp only [decide_eq_true_eq, decide_eq_false_iff_not, Bool.and_eq_true, Bool.or_eq_true, Bool.not_eq_true', Bool.not_eq_false', Bool.and_eq_false_iff, Bool.or_eq_false_iff, Bool.not_true, Bool.not_false, Int.not_lt, Int.not_le, Decidable.not_not, ne_eq] at hb)
    · have hlt : j < c.subs.length := by omega
      have hd := drop_step hlt
      rw [hd, subsT_cons] at hI
      have hlI := congrArg List.length hI
      simp only [List.length_append] at hlI
      generalize hsep : (if decide (j = 0) = true then [] else [word (if c.kind = 1 then (ByteArray.mk #[97, 110, 100]) else (ByteArray.mk #[111, 114]))]) = sep at hI hlI
      refine JOIN.gen (fun x : TS × Mem => ([.slice x.1.A x.1.l.length x.1.c], [], x.2, L)) (fun x => M1.le x.2 ∧ Has x.2 [x.1] ∧ x.1.l = t.l ++ (if 0 < j ∧ c.kind = 1 then sep else [])) (fun nx hnx => ?_) ?_
      · refine IFF.mk (fun hb => ?_) (fun hb => ?_) <;> (try simp only [decide_eq_true_eq, decide_eq_false_iff_not, Bool.and_eq_true, Bool.or_eq_true, Bool.not_eq_true', Bool.not_eq_false', Bool.and_eq_false_iff, Bool.or_eq_false_iff, Bool.not_true, Bool.not_false, Int.not_lt, Int.not_le, Decidable.not_not, ne_eq] at hb)
        · have hs1 : sep = [word (ByteArray.mk #[97, 110, 100])] := by rw [← hsep, if_neg (by simp; omega), if_pos hb.2]
          rw [hs1] at hlI hnx
          simp only [List.length_cons, List.length_nil] at hlI
          refine CALL.give hH (rSpoken_ok (s := (ByteArray.mk #[97, 110, 100])) (l := [word (ByteArray.mk #[97, 110, 100])]) (by decide) (by rfl)) fun t1 M1 hM1 ht1 hH => ?_
          (repeat apply EX.in)
          refine NEED.mk rfl ?_
          refine TOKS hH ([t, t1]) (by simp) (by simp only [List.flatMap_cons, List.flatMap_nil, List.length_append, List.length_nil, List.length_cons, ht1]; omega) fun t2 M2 hM2 ht2 hH => ?_
          (repeat apply EX.in)
          refine NEED.mk rfl ?_
          refine NEED.mk ⟨rfl, rfl⟩ ?_
          refine hnx (t2, M2) ⟨Mem.le_trans hM1 hM2, fun u hu => hH u (by simp at hu; subst hu; simp), ?_⟩
          dsimp only
          rw [ht2, if_pos ⟨by omega, hb.2⟩]; simp [ht1]
        · refine NEED.mk ⟨rfl, rfl⟩ ?_
          refine hnx (t, M1) ⟨Mem.le_refl _, hH, ?_⟩
          dsimp only
          rw [if_neg (by omega), List.append_nil]
      rintro ⟨t3, M3⟩ hM3 ⟨_, hH3, ht3⟩
      dsimp only at hM3 hH3 ht3 ⊢
      (repeat apply EX.in)
      refine NEED.mk ⟨rfl, rfl⟩ ?_
      refine JOIN.gen (fun x : TS × Mem => ([.slice x.1.A x.1.l.length x.1.c], [], x.2, L)) (fun x => M3.le x.2 ∧ Has x.2 [x.1] ∧ x.1.l = t.l ++ sep) (fun nx hnx => ?_) ?_
      · refine IFF.mk (fun hb => ?_) (fun hb => ?_) <;> (try simp only [decide_eq_true_eq, decide_eq_false_iff_not, Bool.and_eq_true, Bool.or_eq_true, Bool.not_eq_true', Bool.not_eq_false', Bool.and_eq_false_iff, Bool.or_eq_false_iff, Bool.not_true, Bool.not_false, Int.not_lt, Int.not_le, Decidable.not_not, ne_eq] at hb)
        · have hs1 : sep = [word (ByteArray.mk #[111, 114])] := by rw [← hsep, if_neg (by simp; omega), if_neg (by omega)]
          rw [if_neg (by omega), List.append_nil] at ht3
          rw [hs1] at hlI hnx
          simp only [List.length_cons, List.length_nil] at hlI
          have hH := hH3
          refine CALL.give hH (rSpoken_ok (s := (ByteArray.mk #[111, 114])) (l := [word (ByteArray.mk #[111, 114])]) (by decide) (by rfl)) fun t1 M1 hM1 ht1 hH => ?_
          (repeat apply EX.in)
          refine NEED.mk rfl ?_
          refine TOKS hH ([t3, t1]) (by simp) (by simp only [List.flatMap_cons, List.flatMap_nil, List.length_append, List.length_nil, List.length_cons, ht1, ht3]; omega) fun t2 M2 hM2 ht2 hH => ?_
          (repeat apply EX.in)
          refine NEED.mk rfl ?_
          refine NEED.mk ⟨rfl, rfl⟩ ?_
          refine hnx (t2, M2) ⟨Mem.le_trans hM1 hM2, fun u hu => hH u (by simp at hu; subst hu; simp), ?_⟩
          dsimp only
          rw [ht2]; simp [ht1, ht3]
        · refine NEED.mk ⟨rfl, rfl⟩ ?_
          refine hnx (t3, M3) ⟨Mem.le_refl _, hH3, ?_⟩
          dsimp only
          rw [ht3]
          by_cases hj0 : j = 0
          · rw [if_neg (by omega), ← hsep, if_pos (by simp [hj0])]
          · rw [if_pos ⟨by omega, by omega⟩]
      rintro ⟨t4, M4⟩ hM4 ⟨_, hH4, ht4⟩
      dsimp only at hM4 hH4 ht4 ⊢
      (repeat apply EX.in)
      refine NEED.mk ⟨rfl, rfl⟩ ?_
      have hc4 := (hc1.mono hM3).mono hM4
      have hr := hc4.row.cell j hlt
      have hmem := List.getElem_mem hlt
      have hsz := sub_size (c := c) hmem
      have hBx : (condT c.subs[j]).length ≤ (brT (decide (c.subs[j].kind = c.kind ∨ c.subs[j].kind = 2)) (condT c.subs[j])).length := by unfold brT; split <;> simp <;> omega
      have hH := hH4
      refine NEED.mk ⟨hr.ne, by omega, by omega⟩ ?_
      (repeat apply EX.in)
      refine NEED.mk hr.up ?_
      refine CALL.give hH (ih c.subs[j] (by omega) (hall _ hmem) (hc4.sub _ hmem) (by omega)) fun t5 M5 hM5 ht5 hH => ?_
      (repeat apply EX.in)
      refine NEED.mk rfl ?_
      refine NEED.mk ⟨hr.ne, by omega, by omega⟩ ?_
      apply EX.in
      refine NEED.mk ((ReadsAt.sub hr 0 (by simp) rfl).mono hM5).up ?_
      have next : ∀ (u : TS) M', M1.le M' → Has M' [u] → u.l = t.l ++ sep ++ brT (decide (c.subs[j].kind = c.kind ∨ c.subs[j].kind = 2)) (condT c.subs[j]) → again [.slice u.A u.l.length u.c, .int .i64 ((j : Int) + 1)] [] M' L := by
        intro u M' hM' hHu hu
        refine hag (u, j + 1, M') ⟨hlt, hHu, ?_⟩ (by dsimp only; omega)
        dsimp only
        rw [hI, hu, show decide (j + 1 = 0) = false by simp]
        simp only [List.append_assoc]
      refine IFF.mk (fun hb => ?_) (fun hb => ?_)
      · have hbr : brT (decide (c.subs[j].kind = c.kind ∨ c.subs[j].kind = 2)) (condT c.subs[j]) = [word (ByteArray.mk #[40])] ++ condT c.subs[j] ++ [word (ByteArray.mk #[41])] := by
          rw [brT, if_pos (by simp at hb ⊢; omega)]
        rw [hbr] at hlI next
        simp only [List.length_append, List.length_cons, List.length_nil] at hlI
        refine CALL.give hH (rSpoken_ok (s := (ByteArray.mk #[40])) (l := [word (ByteArray.mk #[40])]) (by decide) (by rfl)) fun t6 M6 hM6 ht6 hH => ?_
        (repeat apply EX.in)
        refine NEED.mk rfl ?_
        refine CALL.give hH (rSpoken_ok (s := (ByteArray.mk #[41])) (l := [word (ByteArray.mk #[41])]) (by decide) (by rfl)) fun t7 M7 hM7 ht7 hH => ?_
        (repeat apply EX.in)
        refine NEED.mk rfl ?_
        refine TOKS hH ([t6, t5, t7]) (by simp) (by simp only [List.flatMap_cons, List.flatMap_nil, List.length_append, List.length_nil, List.length_cons, ht5, ht6, ht7]; omega) fun t8 M8 hM8 ht8 hH => ?_
        (repeat apply EX.in)
        refine NEED.mk rfl ?_
        refine TOKS hH ([t4, t8]) (by simp) (by simp only [List.flatMap_cons, List.flatMap_nil, List.length_append, List.length_nil, List.length_cons, ht4, ht5, ht6, ht7, ht8]; omega) fun t9 M9 hM9 ht9 hH => ?_
        (repeat apply EX.in)
        refine NEED.mk rfl ?_
        refine NEED.mk (by unfold inI64; omega) ?_
        refine NEED.mk ⟨rfl, rfl⟩ ?_
        refine next t9 M9 (Mem.le_trans hM3 (Mem.le_trans hM4 (Mem.le_trans hM5 (Mem.le_trans hM6 (Mem.le_trans hM7 (Mem.le_trans hM8 hM9)))))) (fun u hu => hH u (by simp at hu; subst hu; simp)) ?_
        rw [ht9]; simp [ht4, ht5, ht6, ht7, ht8]
      · have hbr : brT (decide (c.subs[j].kind = c.kind ∨ c.subs[j].kind = 2)) (condT c.subs[j]) = condT c.subs[j] := by
          rw [brT, if_neg (by simp at hb ⊢; omega)]
        rw [hbr] at hlI next
        refine TOKS hH ([t4, t5]) (by simp) (by simp only [List.flatMap_cons, List.flatMap_nil, List.length_append, List.length_nil, List.length_cons, ht4, ht5]; omega) fun t6 M6 hM6 ht6 hH => ?_
        (repeat apply EX.in)
        refine NEED.mk rfl ?_
        refine NEED.mk (by unfold inI64; omega) ?_
        refine NEED.mk ⟨rfl, rfl⟩ ?_
        refine next t6 M6 (Mem.le_trans hM3 (Mem.le_trans hM4 (Mem.le_trans hM5 hM6))) (fun u hu => hH u (by simp at hu; subst hu; simp)) ?_
        rw [ht6]; simp [ht4, ht5]
    · have hd := drop_end (j := j) (l := c.subs) (by omega)
      exact ⟨.of hH (by rw [hI, hd, subsT]; simp), rfl⟩
end Go.Proofs.YthaamalgeieijabDoor
