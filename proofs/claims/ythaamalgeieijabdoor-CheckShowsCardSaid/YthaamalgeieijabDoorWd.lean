/- Contracts: how a book is shown, by both sides; the law answers true. No condition. -/
import Derived.Test.YthaamalgeieijabDoorWc
set_option linter.unusedVariables false
set_option linter.unusedSimpArgs false
namespace Go.Proofs.YthaamalgeieijabDoor
open Go

def shownF (b : Bok) : List Tok × Int := if bookF b ≠ 0 then ([], bookF b) else if 700 < (bookT b).length then ([], 8) else (bookT b, 0)
def ShowQ (M : Mem) (v : Value) (r : List Tok × Int) : Prop := ∃ t : TS, t.l = r.1 ∧ v = .tuple #[t.toV, .int .i64 r.2] ∧ Row M Tok.toV 3 t.A t.c t.l
theorem PSpec.show {P : Program} {f : FuncId} {args : Array Value} {M L : Mem} {r : List Tok × Int} (h : PSpec P f args M L fun v M' L' => (∃ A c, v = .tuple #[.slice A r.1.length c, .int .i64 r.2] ∧ Owns L M' L' Tok.toV 56 3 A c r.1) ∨ (v = .tuple #[.slice none 0 0, .int .i64 r.2] ∧ r.1 = [] ∧ L.le L')) :
    PSpec P f args M L fun v M' L' => ShowQ M' v r ∧ L' = L :=
  h.mono fun v M' L' _ hp => by
    rcases hp with ⟨A, c, rfl, hO⟩ | ⟨rfl, hr, hle⟩
    · obtain ⟨M2, L2, hpub, hrow, hL⟩ := hO.give Tok.size3
      exact ⟨M2, L2, hpub, ⟨⟨A, c, r.1⟩, rfl, rfl, hrow⟩, hL⟩
    · exact ⟨M', L, .forget hle, ⟨⟨none, 0, []⟩, hr.symm, rfl, TS.none_row _ (by simp)⟩, rfl⟩
set_option maxHeartbeats 1000000 in
theorem cShow_ok {b : Bok} {M L : Mem} (hT : Tab M) (hb : b.Ok M) : PSpec Tryd.prog 4 #[b.toV] M L fun v M' L' => ShowQ M' v (shownF b) ∧ L' = L := by
  refine PSpec.show (cShow_spec ?_)
  unfold vc_cShow
  have hbk := hb
  refine CALL.pure (cCheck_ok hT hbk) ?_
  (repeat apply EX.in)
  refine NEED.mk rfl ?_
  refine IFF.mk (fun hb => ?_) (fun hb => ?_) <;> (try simp only [decide_eq_true_eq, decide_eq_false_iff_not, Bool.and_eq_true, Bool.or_eq_true, Bool.not_eq_true', Bool.not_eq_false', Bool.and_eq_false_iff, Bool.or_eq_false_iff, Bool.not_true, Bool.not_false, Int.not_lt, Int.not_le, Decidable.not_not, ne_eq] at hb)
  · exact .inr ⟨by rw [shownF, if_pos hb], by rw [shownF, if_pos hb], Mem.le_refl _⟩
  have hb0 := hb
  obtain ⟨hf, hlen, hnt, hnr⟩ := bookF_fine hb0
  have es : shownF b = if 700 < (bookT b).length then ([], 8) else (bookT b, 0) := by rw [shownF, if_neg (by omega)]
  rw [es]
  refine ⟨fun g hMg hLg => ?_⟩
  have hW0 : Wr L M (L.upd g (.cells #[.slice none 0 0] 35 (0, 0))) g ([] ++ []) := ⟨none, 0, Mem.upd_self _ _ _, ⟨Mem.upd_le hLg, ⟨by simp [flatV], .inl ⟨_, rfl, rfl⟩⟩, fun k h0 => absurd rfl h0⟩, fun k h0 => absurd rfl h0, hMg, hLg⟩
  generalize hR1 : b.rules.flatMap ruleT = R1
  have eb : bookT b = [] ++ (b.types.flatMap typeT ++ R1) := by rw [← hR1]; rfl
  generalize hWW : bookT b = W at hlen eb ⊢
  clear hWW es
  refine LOOP.gen (fun s : List Tok × Nat × Mem × Mem => ([.int .i64 (s.2.1 : Int)], [], s.2.2.1, s.2.2.2)) (fun s => s.2.1 ≤ b.types.length ∧ Wr L s.2.2.1 s.2.2.2 g ([] ++ s.1) ∧ W = s.1 ++ ((b.types.drop s.2.1).flatMap typeT ++ R1)) (fun s => b.types.length - s.2.1) ([], 0, M, _) rfl ⟨Nat.zero_le _, hW0, eb⟩ ?_
  clear hW0 eb
  rintro ⟨out, j, M2, L2⟩ again hM2 ⟨hj, hW, hI⟩ hag
  dsimp only at hM2 hj hW hI hag ⊢
  rw [List.nil_append] at hW
  have hbk := hbk.mono hM2
  have hT := hT.mono hM2
  have hlen2 := hbk.types.len
  (repeat apply EX.in)
  refine NEED.mk ⟨rfl, rfl⟩ ?_
  refine IFF.mk (fun hb => ?_) (fun hb => ?_) <;> (try simp only [decide_eq_true_eq, decide_eq_false_iff_not, Bool.and_eq_true, Bool.or_eq_true, Bool.not_eq_true', Bool.not_eq_false', Bool.and_eq_false_iff, Bool.or_eq_false_iff, Bool.not_true, Bool.not_false, Int.not_lt, Int.not_le, Decidable.not_not, ne_eq] at hb)
  · have hlt : j < b.types.length := by simpa using hb
    have hr := (hbk.types).cell j hlt
    have hd := drop_step hlt
    refine NEED.mk ⟨hr.ne, by omega, by omega⟩ ?_
    (repeat apply EX.in)
    refine NEED.mk (by first | exact hr.up | exact hr) ?_
    have hmem := List.getElem_mem hlt
    obtain ⟨htn, htf⟩ := hf.types _ hmem
    have hto := hbk.type _ hmem
    rw [hd, flat_cons, typeT] at hI
    have hl := congrArg List.length hI
    simp only [List.length_append, List.length_cons, List.length_nil] at hl
    have h1 := (name_chars htn).2.2.1
    refine PUTW hW ([(ByteArray.mk #[116, 121, 112, 101]), b.types[j].name, (ByteArray.mk #[123])]) (by intro s hs; simp at hs; (try rcases hs with rfl | rfl | rfl) <;> (try subst hs) <;> first | omega | decide) (by simp only [List.length_append, List.length_cons, List.length_nil, List.length_map, List.length_nil]; omega) fun M3 L3 hM3 hW => ?_
    have hto := hto.mono hM3
    refine NEED.mk rfl ?_
    generalize hR5 : [word (ByteArray.mk #[125])] ++ ((b.types.drop (j + 1)).flatMap typeT ++ R1) = R5
    have hI2 : W = out ++ [word (ByteArray.mk #[116, 121, 112, 101]), word b.types[j].name, word (ByteArray.mk #[123])] ++ (fldsT true b.types[j].fields ++ R5) := by rw [hI, ← hR5]; simp only [List.append_assoc]
    have hlo := hto.fields.len
    refine LOOP.gen (fun s : List Tok × Nat × Mem × Mem => ([.int .i64 (s.2.1 : Int)], [], s.2.2.1, s.2.2.2)) (fun s => s.2.1 ≤ b.types[j].fields.length ∧ Wr L s.2.2.1 s.2.2.2 g s.1 ∧ W = s.1 ++ (fldsT (decide (s.2.1 = 0)) (b.types[j].fields.drop s.2.1) ++ R5)) (fun s => b.types[j].fields.length - s.2.1) (out ++ [word (ByteArray.mk #[116, 121, 112, 101]), word b.types[j].name, word (ByteArray.mk #[123])], 0, M3, L3) rfl ⟨Nat.zero_le _, by simpa using hW, hI2⟩ ?_
    rintro ⟨out2, i, N, K⟩ again2 hN ⟨hi, hW, hI2⟩ hag2
    dsimp only at hN hi hW hI2 hag2 ⊢
    have hto := hto.mono hN
    (repeat apply EX.in)
    refine NEED.mk ⟨rfl, rfl⟩ ?_
    refine IFF.mk (fun hb => ?_) (fun hb => ?_) <;> (try simp only [decide_eq_true_eq, decide_eq_false_iff_not, Bool.and_eq_true, Bool.or_eq_true, Bool.not_eq_true', Bool.not_eq_false', Bool.and_eq_false_iff, Bool.or_eq_false_iff, Bool.not_true, Bool.not_false, Int.not_lt, Int.not_le, Decidable.not_not, ne_eq] at hb)
    · have hlt2 : i < b.types[j].fields.length := by omega
      have hr := hto.fields.cell i hlt2
      have hd2 := drop_step hlt2
      obtain ⟨hfn, hfk⟩ := htf _ (List.getElem_mem hlt2)
      have h1 := (name_chars hfn).2.2.1
      rw [hd2, fldsT] at hI2
      have hl2 := congrArg List.length hI2
      simp only [List.length_append, List.length_cons, List.length_nil] at hl2
      have hkw : strAt [emptyS, (ByteArray.mk #[105, 110, 116]), (ByteArray.mk #[116, 101, 120, 116])] b.types[j].fields[i].kind.toNat = kindW b.types[j].fields[i].kind ∧ 0 < (kindW b.types[j].fields[i].kind).size := by
        rcases hfk with h | h <;> rw [h] <;> exact ⟨rfl, by decide⟩
      have hk2 := hkw.2
      refine NEED.mk ⟨hr.ne, by omega, by omega⟩ ?_
      (repeat apply EX.in)
      refine NEED.mk (by first | exact hr.up | exact hr) ?_
      rw [show (ByteArray.mk #[]) = emptyS from rfl, hkw.1]
      refine IFF.mk (fun hb => ?_) (fun hb => ?_) <;> (try simp only [decide_eq_true_eq, decide_eq_false_iff_not, Bool.and_eq_true, Bool.or_eq_true, Bool.not_eq_true', Bool.not_eq_false', Bool.and_eq_false_iff, Bool.or_eq_false_iff, Bool.not_true, Bool.not_false, Int.not_lt, Int.not_le, Decidable.not_not, ne_eq] at hb)
      · rw [if_neg (by simp; omega)] at hI2 hl2
        simp only [List.length_cons, List.length_nil] at hl2
        refine PUTW hW ([(ByteArray.mk #[44])]) (by intro s hs; simp at hs; (try rcases hs with rfl | rfl | rfl) <;> (try subst hs) <;> first | omega | decide) (by simp only [List.length_append, List.length_cons, List.length_nil, List.length_map, List.length_nil]; omega) fun M5 L5 hM5 hW => ?_
        refine NEED.mk rfl ?_
        refine NEED.mk ⟨by omega, by omega⟩ ?_
        refine PUTW hW ([b.types[j].fields[i].name, (ByteArray.mk #[58]), kindW b.types[j].fields[i].kind]) (by intro s hs; simp at hs; (try rcases hs with rfl | rfl | rfl) <;> (try subst hs) <;> first | omega | decide) (by simp only [List.length_append, List.length_cons, List.length_nil, List.length_map, List.length_nil]; omega) fun M6 L6 hM6 hW => ?_
        refine NEED.mk rfl ?_
        refine NEED.mk (by unfold inI64; omega) ?_
        refine NEED.mk ⟨rfl, rfl⟩ ?_
        refine hag2 (out2 ++ [word (ByteArray.mk #[44])] ++ [word b.types[j].fields[i].name, word (ByteArray.mk #[58]), word (kindW b.types[j].fields[i].kind)], i + 1, M6, L6) ⟨hlt2, by simpa using hW, ?_⟩ (by dsimp only; omega)
        dsimp only
        rw [hI2, show decide (i + 1 = 0) = false by simp]; simp only [List.append_assoc]
      · rw [if_pos (by simp; omega), List.nil_append] at hI2
        rw [if_pos (by simp; omega)] at hl2
        simp only [List.length_nil] at hl2
        refine NEED.mk ⟨by omega, by omega⟩ ?_
        refine PUTW hW ([b.types[j].fields[i].name, (ByteArray.mk #[58]), kindW b.types[j].fields[i].kind]) (by intro s hs; simp at hs; (try rcases hs with rfl | rfl | rfl) <;> (try subst hs) <;> first | omega | decide) (by simp only [List.length_append, List.length_cons, List.length_nil, List.length_map, List.length_nil]; omega) fun M6 L6 hM6 hW => ?_
        refine NEED.mk rfl ?_
        refine NEED.mk (by unfold inI64; omega) ?_
        refine NEED.mk ⟨rfl, rfl⟩ ?_
        refine hag2 (out2 ++ [word b.types[j].fields[i].name, word (ByteArray.mk #[58]), word (kindW b.types[j].fields[i].kind)], i + 1, M6, L6) ⟨hlt2, by simpa using hW, ?_⟩ (by dsimp only; omega)
        dsimp only
        rw [hI2, show decide (i + 1 = 0) = false by simp]; simp only [List.append_assoc]
    have hd2 := drop_end (j := i) (l := b.types[j].fields) (by omega)
    rw [hd2, fldsT, List.nil_append, ← hR5] at hI2
    have hl2 := congrArg List.length hI2
    simp only [List.length_append, List.length_cons, List.length_nil] at hl2
    refine PUTW hW ([(ByteArray.mk #[125])]) (by intro s hs; simp at hs; (try rcases hs with rfl | rfl | rfl) <;> (try subst hs) <;> first | omega | decide) (by simp only [List.length_append, List.length_cons, List.length_nil, List.length_map, List.length_nil]; omega) fun M5 L5 hM5 hW => ?_
    refine NEED.mk rfl ?_
    refine NEED.mk (by unfold inI64; omega) ?_
    refine NEED.mk ⟨rfl, rfl⟩ ?_
    refine hag (out2 ++ [word (ByteArray.mk #[125])], j + 1, M5, L5) ⟨hlt, by simpa using hW, ?_⟩ (by dsimp only; omega)
    dsimp only
    rw [hI2]; simp only [List.append_assoc]
  have hd := drop_end (j := j) (l := b.types) (by simpa using hb)
  rw [hd, List.flatMap_nil, List.nil_append, ← hR1] at hI
  clear hag hd hb hlen2
  refine LOOP.gen (fun s : List Tok × Nat × Mem × Mem => ([.int .i64 (s.2.1 : Int)], [], s.2.2.1, s.2.2.2)) (fun s => s.2.1 ≤ b.rules.length ∧ Wr L s.2.2.1 s.2.2.2 g s.1 ∧ W = s.1 ++ (b.rules.drop s.2.1).flatMap ruleT) (fun s => b.rules.length - s.2.1) (_, 0, M2, L2) rfl ⟨Nat.zero_le _, hW, hI⟩ ?_
  clear hI hM2 hj hW
  rintro ⟨out, j, M2, L2⟩ again hM2 ⟨hj, hW, hI⟩ hag
  dsimp only at hM2 hj hW hI hag ⊢
  have hbk := hbk.mono hM2
  have hT := hT.mono hM2
  have hlen2 := hbk.rules.len
  (repeat apply EX.in)
  refine NEED.mk ⟨rfl, rfl⟩ ?_
  refine IFF.mk (fun hb => ?_) (fun hb => ?_) <;> (try simp only [decide_eq_true_eq, decide_eq_false_iff_not, Bool.and_eq_true, Bool.or_eq_true, Bool.not_eq_true', Bool.not_eq_false', Bool.and_eq_false_iff, Bool.or_eq_false_iff, Bool.not_true, Bool.not_false, Int.not_lt, Int.not_le, Decidable.not_not, ne_eq] at hb)
  · have hlt : j < b.rules.length := by simpa using hb
    have hr := (hbk.rules).cell j hlt
    have hd := drop_step hlt
    refine NEED.mk ⟨hr.ne, by omega, by omega⟩ ?_
    (repeat apply EX.in)
    refine NEED.mk (by first | exact hr.up | exact hr) ?_
    have hmem := List.getElem_mem hlt
    rw [hd, flat_cons] at hI
    have hl := congrArg List.length hI
    simp only [List.length_append] at hl
    refine CALL.puts (wRule_ok hW hT (hf.rules _ hmem) (hbk.rule _ hmem) (by omega)) fun L3 hW => ?_
    refine NEED.mk rfl ?_
    refine NEED.mk (by unfold inI64; omega) ?_
    refine NEED.mk ⟨rfl, rfl⟩ ?_
    refine hag (out ++ ruleT b.rules[j], j + 1, M2, L3) ⟨hlt, hW, ?_⟩ (by dsimp only; omega)
    dsimp only
    rw [hI]; simp only [List.append_assoc]
  have hd := drop_end (j := j) (l := b.rules) (by simpa using hb)
  rw [hd, List.flatMap_nil, List.append_nil] at hI
  obtain ⟨A, c, hW⟩ := hW
  refine NEED.mk (by simp) (EX.in _ (EX.in _ (EX.in _ (NEED.mk hW.read ?_))))
  subst hI
  refine IFF.mk (fun hb => ?_) (fun hb => ?_) <;> (try simp only [decide_eq_true_eq, decide_eq_false_iff_not, Bool.and_eq_true, Bool.or_eq_true, Bool.not_eq_true', Bool.not_eq_false', Bool.and_eq_false_iff, Bool.or_eq_false_iff, Bool.not_true, Bool.not_false, Int.not_lt, Int.not_le, Decidable.not_not, ne_eq] at hb)
  · rw [if_pos (by omega)]
    exact .inr ⟨rfl, rfl, hW.row.le⟩
  · rw [if_neg (by omega)]
    refine NEED.mk (by simp) (EX.in _ (EX.in _ (EX.in _ (NEED.mk hW.read ?_))))
    exact .inl ⟨A, c, rfl, hW.row⟩
set_option maxHeartbeats 1000000 in
theorem rShownBook_ok {b : Bok} {M L : Mem} (hb : b.Ok M) : PSpec Tryd.prog 5 #[b.toV] M L fun v M' L' => ShowQ M' v (shownF b) ∧ L' = L := by
  refine rShownBook_spec ?_
  unfold vc_rShownBook
  have hbk := hb
  refine CALL.pure (rBookFault_ok hbk) ?_
  (repeat apply EX.in)
  refine NEED.mk rfl ?_
  refine IFF.mk (fun hb => ?_) (fun hb => ?_) <;> (try simp only [decide_eq_true_eq, decide_eq_false_iff_not, Bool.and_eq_true, Bool.or_eq_true, Bool.not_eq_true', Bool.not_eq_false', Bool.and_eq_false_iff, Bool.or_eq_false_iff, Bool.not_true, Bool.not_false, Int.not_lt, Int.not_le, Decidable.not_not, ne_eq] at hb)
  · refine ⟨⟨⟨none, 0, []⟩, by rw [shownF, if_pos hb], by rw [shownF, if_pos hb]; rfl, TS.none_row _ (by simp)⟩, rfl⟩
  have hb0 := hb
  obtain ⟨hf, hlen, hnt, hnr⟩ := bookF_fine hb0
  have es : shownF b = if 700 < (bookT b).length then ([], 8) else (bookT b, 0) := by rw [shownF, if_neg (by omega)]
  rw [es]
  generalize hR1 : b.rules.flatMap ruleT = R1
  have eb : bookT b = [] ++ (b.types.flatMap typeT ++ R1) := by rw [← hR1]; rfl
  generalize hWW : bookT b = W at hlen eb ⊢
  clear hWW es
  refine LOOP.gen (fun s : TS × Nat × Mem => ([.slice s.1.A s.1.l.length s.1.c, .int .i64 (s.2.1 : Int)], [], s.2.2, L)) (fun s => s.2.1 ≤ b.types.length ∧ Has s.2.2 [s.1] ∧ W = s.1.l ++ ((b.types.drop s.2.1).flatMap typeT ++ R1)) (fun s => b.types.length - s.2.1) (⟨none, 0, []⟩, 0, M) rfl ⟨Nat.zero_le _, TS.none_row, eb⟩ ?_
  rintro ⟨t, j, M2⟩ again hM2 ⟨hj, hH, hI⟩ hag
  dsimp only at hM2 hj hH hI hag ⊢
  have hbk := hbk.mono hM2
  have hlen2 := hbk.types.len
  (repeat apply EX.in)
  refine NEED.mk ⟨rfl, rfl⟩ ?_
  refine IFF.mk (fun hb => ?_) (fun hb => ?_) <;> (try simp only [decide_eq_true_eq, decide_eq_false_iff_not, Bool.and_eq_true, Bool.or_eq_true, Bool.not_eq_true', Bool.not_eq_false', Bool.and_eq_false_iff, Bool.or_eq_false_iff, Bool.not_true, Bool.not_false, Int.not_lt, Int.not_le, Decidable.not_not, ne_eq] at hb)
  · have hlt : j < b.types.length := by simpa using hb
    have hr := (hbk.types).cell j hlt
    have hd := drop_step hlt
    refine NEED.mk ⟨hr.ne, by omega, by omega⟩ ?_
    (repeat apply EX.in)
    refine NEED.mk (by first | exact hr.up | exact hr) ?_
    have hmem := List.getElem_mem hlt
    obtain ⟨htn, htf⟩ := hf.types _ hmem
    have hto := hbk.type _ hmem
    rw [hd, flat_cons, typeT] at hI
    have hl := congrArg List.length hI
    simp only [List.length_append, List.length_cons, List.length_nil] at hl
    have h1 := (name_chars htn).2.2.2
    refine NEED.mk (by omega) (NEED.mk (by rw [ByteArray.size_append]; show 5 + _ + 2 ≤ _; omega) ?_)
    refine CALL.give hH (rSpoken_ok (by rw [ByteArray.size_append, ByteArray.size_append]; show 5 + _ + 2 ≤ _; omega) (sp_type htn)) fun t3 M3 hM3 ht3 hH => ?_
    have hto := hto.mono hM3
    (repeat apply EX.in)
    refine NEED.mk rfl ?_
    refine TOKS hH ([t, t3]) (by simp) (by simp only [List.flatMap_cons, List.flatMap_nil, List.length_append, List.length_nil, List.length_cons, ht3]; omega) fun t4 M4 hM4 ht4 hH => ?_
    have hto := hto.mono hM4
    (repeat apply EX.in)
    refine NEED.mk rfl ?_
    generalize hR5 : [word (ByteArray.mk #[125])] ++ ((b.types.drop (j + 1)).flatMap typeT ++ R1) = R5
    have hI2 : W = t4.l ++ (fldsT true b.types[j].fields ++ R5) := by rw [hI, ← hR5, ht4]; simp [ht3]
    have hlo := hto.fields.len
    refine LOOP.gen (fun s : TS × Nat × Mem => ([.slice s.1.A s.1.l.length s.1.c, .int .i64 (s.2.1 : Int)], [], s.2.2, L)) (fun s => s.2.1 ≤ b.types[j].fields.length ∧ Has s.2.2 [s.1] ∧ W = s.1.l ++ (fldsT (decide (s.2.1 = 0)) (b.types[j].fields.drop s.2.1) ++ R5)) (fun s => b.types[j].fields.length - s.2.1) (t4, 0, M4) rfl ⟨Nat.zero_le _, hH.head, hI2⟩ ?_
    rintro ⟨t, i, N⟩ again2 hN ⟨hi, hH, hI2⟩ hag2
    dsimp only at hN hi hH hI2 hag2 ⊢
    have hto := hto.mono hN
    (repeat apply EX.in)
    refine NEED.mk ⟨rfl, rfl⟩ ?_
    refine IFF.mk (fun hb => ?_) (fun hb => ?_) <;> (try simp only [decide_eq_true_eq, decide_eq_false_iff_not, Bool.and_eq_true, Bool.or_eq_true, Bool.not_eq_true', Bool.not_eq_false', Bool.and_eq_false_iff, Bool.or_eq_false_iff, Bool.not_true, Bool.not_false, Int.not_lt, Int.not_le, Decidable.not_not, ne_eq] at hb)
    · have hlt2 : i < b.types[j].fields.length := by omega
      have hd2 := drop_step hlt2
      obtain ⟨hfn, hfk⟩ := htf _ (List.getElem_mem hlt2)
      have h1 := (name_chars hfn).2.2.2
      rw [hd2, fldsT] at hI2
      generalize hsep : (if decide (i = 0) = true then [] else [word (ByteArray.mk #[44])]) = sep at hI2
      have hl2 := congrArg List.length hI2
      simp only [List.length_append, List.length_cons, List.length_nil] at hl2
      refine JOIN.gen (fun s : TS × Mem => ([.slice s.1.A s.1.l.length s.1.c], [], s.2, L)) (fun s => N.le s.2 ∧ Has s.2 [s.1] ∧ s.1.l = t.l ++ sep) (fun nx hnx => ?_) ?_
      · refine IFF.mk (fun hb => ?_) (fun hb => ?_) <;> (try simp only [decide_eq_true_eq, decide_eq_false_iff_not, Bool.and_eq_true, Bool.or_eq_true, Bool.not_eq_true', Bool.not_eq_false', Bool.and_eq_false_iff, Bool.or_eq_false_iff, Bool.not_true, Bool.not_false, Int.not_lt, Int.not_le, Decidable.not_not, ne_eq] at hb)
        · have hs1 : sep = [word (ByteArray.mk #[44])] := by rw [← hsep, if_neg (by simp; omega)]
          rw [hs1] at hl2 hnx
          simp only [List.length_cons, List.length_nil] at hl2
          refine CALL.give hH (rSpoken_ok (s := (ByteArray.mk #[44])) (l := [word (ByteArray.mk #[44])]) (by decide) (by rfl)) fun t5 M5 hM5 ht5 hH => ?_
          (repeat apply EX.in)
          refine NEED.mk rfl ?_
          refine TOKS hH ([t, t5]) (by simp) (by simp only [List.flatMap_cons, List.flatMap_nil, List.length_append, List.length_nil, List.length_cons, ht5]; omega) fun t6 M6 hM6 ht6 hH => ?_
          (repeat apply EX.in)
          refine NEED.mk rfl ?_
          refine NEED.mk ⟨rfl, rfl⟩ ?_
          refine hnx (t6, M6) ⟨Mem.le_trans hM5 hM6, hH.head, ?_⟩
          dsimp only
          rw [ht6]; simp [ht5]
        · refine NEED.mk ⟨rfl, rfl⟩ ?_
          refine hnx (t, N) ⟨Mem.le_refl _, hH, ?_⟩
          dsimp only
          rw [← hsep, if_pos (by simp; omega), List.append_nil]
      rintro ⟨u, N2⟩ hN2 ⟨_, hH, hu⟩
      dsimp only at hN2 hH hu ⊢
      (repeat apply EX.in)
      refine NEED.mk ⟨rfl, rfl⟩ ?_
      have hto := hto.mono hN2
      have hr := hto.fields.cell i hlt2
      have hul := congrArg List.length hu
      simp only [List.length_append] at hul
      have next : ∀ (v : TS) M', N.le M' → Has M' [v] → v.l = t.l ++ (sep ++ [word b.types[j].fields[i].name, word (ByteArray.mk #[58]), word (kindW b.types[j].fields[i].kind)]) → again2 [.slice v.A v.l.length v.c, .int .i64 ((i : Int) + 1)] [] M' L := by
        intro v M' hM' hHv hv
        refine hag2 (v, i + 1, M') ⟨hlt2, hHv, ?_⟩ (by dsimp only; omega)
        dsimp only
        rw [hI2, hv, show decide (i + 1 = 0) = false by simp]
        simp only [List.append_assoc]
      refine NEED.mk ⟨hr.ne, by omega, by omega⟩ ?_
      (repeat apply EX.in)
      refine NEED.mk (by first | exact (ReadsAt.sub hr (1) (by simp) rfl).up | exact ReadsAt.sub hr (1) (by simp) rfl) ?_
      refine IFF.mk (fun hb => ?_) (fun hb => ?_) <;> (try simp only [decide_eq_true_eq, decide_eq_false_iff_not, Bool.and_eq_true, Bool.or_eq_true, Bool.not_eq_true', Bool.not_eq_false', Bool.and_eq_false_iff, Bool.or_eq_false_iff, Bool.not_true, Bool.not_false, Int.not_lt, Int.not_le, Decidable.not_not, ne_eq] at hb)
      · refine NEED.mk ⟨hr.ne, by omega, by omega⟩ ?_
        (repeat apply EX.in)
        refine NEED.mk (by first | exact (ReadsAt.sub hr (0) (by simp) rfl).up | exact ReadsAt.sub hr (0) (by simp) rfl) ?_
        refine NEED.mk (by omega) (NEED.mk (by rw [ByteArray.size_append]; show _ + 3 + 4 ≤ _; omega) ?_)
        refine CALL.give hH (rSpoken_ok (by rw [ByteArray.size_append, ByteArray.size_append]; show _ + 3 + 4 ≤ _; omega) (sp_text hfn)) fun t7 M7 hM7 ht7 hH => ?_
        (repeat apply EX.in)
        refine NEED.mk rfl ?_
        refine TOKS hH ([u, t7]) (by simp) (by simp only [List.flatMap_cons, List.flatMap_nil, List.length_append, List.length_nil, List.length_cons, ht7]; omega) fun t8 M8 hM8 ht8 hH => ?_
        (repeat apply EX.in)
        refine NEED.mk rfl ?_
        refine NEED.mk (by unfold inI64; omega) ?_
        refine NEED.mk ⟨rfl, rfl⟩ ?_
        refine next t8 M8 (Mem.le_trans hN2 (Mem.le_trans hM7 hM8)) hH.head ?_
        rw [ht8, kindW, if_pos hb]; simp [hu, ht7]
      · refine NEED.mk ⟨hr.ne, by omega, by omega⟩ ?_
        (repeat apply EX.in)
        refine NEED.mk (by first | exact (ReadsAt.sub hr (0) (by simp) rfl).up | exact ReadsAt.sub hr (0) (by simp) rfl) ?_
        refine NEED.mk (by omega) (NEED.mk (by rw [ByteArray.size_append]; show _ + 3 + 3 ≤ _; omega) ?_)
        refine CALL.give hH (rSpoken_ok (by rw [ByteArray.size_append, ByteArray.size_append]; show _ + 3 + 3 ≤ _; omega) (sp_int hfn)) fun t7 M7 hM7 ht7 hH => ?_
        (repeat apply EX.in)
        refine NEED.mk rfl ?_
        refine TOKS hH ([u, t7]) (by simp) (by simp only [List.flatMap_cons, List.flatMap_nil, List.length_append, List.length_nil, List.length_cons, ht7]; omega) fun t8 M8 hM8 ht8 hH => ?_
        (repeat apply EX.in)
        refine NEED.mk rfl ?_
        refine NEED.mk (by unfold inI64; omega) ?_
        refine NEED.mk ⟨rfl, rfl⟩ ?_
        refine next t8 M8 (Mem.le_trans hN2 (Mem.le_trans hM7 hM8)) hH.head ?_
        rw [ht8, kindW, if_neg hb]; simp [hu, ht7]
    have hd2 := drop_end (j := i) (l := b.types[j].fields) (by omega)
    rw [hd2, fldsT, List.nil_append, ← hR5] at hI2
    have hl2 := congrArg List.length hI2
    simp only [List.length_append, List.length_cons, List.length_nil] at hl2
    refine CALL.give hH (rSpoken_ok (s := (ByteArray.mk #[125])) (l := [word (ByteArray.mk #[125])]) (by decide) (by rfl)) fun t5 M5 hM5 ht5 hH => ?_
    (repeat apply EX.in)
    refine NEED.mk rfl ?_
    refine TOKS hH ([t, t5]) (by simp) (by simp only [List.flatMap_cons, List.flatMap_nil, List.length_append, List.length_nil, List.length_cons, ht5]; omega) fun t6 M6 hM6 ht6 hH => ?_
    (repeat apply EX.in)
    refine NEED.mk rfl ?_
    refine NEED.mk (by unfold inI64; omega) ?_
    refine NEED.mk ⟨rfl, rfl⟩ ?_
    refine hag (t6, j + 1, M6) ⟨hlt, hH.head, ?_⟩ (by dsimp only; omega)
    dsimp only
    rw [hI2, ht6]; simp [ht5]
  have hd := drop_end (j := j) (l := b.types) (by simpa using hb)
  rw [hd, List.flatMap_nil, List.nil_append, ← hR1] at hI
  clear hag hd hb hlen2
  refine LOOP.gen (fun s : TS × Nat × Mem => ([.slice s.1.A s.1.l.length s.1.c, .int .i64 (s.2.1 : Int)], [], s.2.2, L)) (fun s => s.2.1 ≤ b.rules.length ∧ Has s.2.2 [s.1] ∧ W = s.1.l ++ (b.rules.drop s.2.1).flatMap ruleT) (fun s => b.rules.length - s.2.1) (t, 0, M2) rfl ⟨Nat.zero_le _, hH, hI⟩ ?_
  clear hI hH hM2 hj
  rintro ⟨t, j, M2⟩ again hM2 ⟨hj, hH, hI⟩ hag
  dsimp only at hM2 hj hH hI hag ⊢
  have hbk := hbk.mono hM2
  have hlen2 := hbk.rules.len
  (repeat apply EX.in)
  refine NEED.mk ⟨rfl, rfl⟩ ?_
  refine IFF.mk (fun hb => ?_) (fun hb => ?_) <;> (try simp only [decide_eq_true_eq, decide_eq_false_iff_not, Bool.and_eq_true, Bool.or_eq_true, Bool.not_eq_true', Bool.not_eq_false', Bool.and_eq_false_iff, Bool.or_eq_false_iff, Bool.not_true, Bool.not_false, Int.not_lt, Int.not_le, Decidable.not_not, ne_eq] at hb)
  · have hlt : j < b.rules.length := by simpa using hb
    have hr := (hbk.rules).cell j hlt
    have hd := drop_step hlt
    refine NEED.mk ⟨hr.ne, by omega, by omega⟩ ?_
    (repeat apply EX.in)
    refine NEED.mk (by first | exact hr.up | exact hr) ?_
    have hmem := List.getElem_mem hlt
    rw [hd, flat_cons] at hI
    have hl := congrArg List.length hI
    simp only [List.length_append] at hl
    refine CALL.give hH (rRuleShown_ok (hf.rules _ hmem) (hbk.rule _ hmem) (by omega)) fun t3 M3 hM3 ht3 hH => ?_
    (repeat apply EX.in)
    refine NEED.mk rfl ?_
    refine TOKS hH ([t, t3]) (by simp) (by simp only [List.flatMap_cons, List.flatMap_nil, List.length_append, List.length_nil, List.length_cons, ht3]; omega) fun t4 M4 hM4 ht4 hH => ?_
    (repeat apply EX.in)
    refine NEED.mk rfl ?_
    refine NEED.mk (by unfold inI64; omega) ?_
    refine NEED.mk ⟨rfl, rfl⟩ ?_
    refine hag (t4, j + 1, M4) ⟨hlt, hH.head, ?_⟩ (by dsimp only; omega)
    dsimp only
    rw [hI, ht4]; simp [ht3]
  have hd := drop_end (j := j) (l := b.rules) (by simpa using hb)
  rw [hd, List.flatMap_nil, List.append_nil] at hI
  subst hI
  refine IFF.mk (fun hb => ?_) (fun hb => ?_) <;> (try simp only [decide_eq_true_eq, decide_eq_false_iff_not, Bool.and_eq_true, Bool.or_eq_true, Bool.not_eq_true', Bool.not_eq_false', Bool.and_eq_false_iff, Bool.or_eq_false_iff, Bool.not_true, Bool.not_false, Int.not_lt, Int.not_le, Decidable.not_not, ne_eq] at hb)
  · rw [if_pos (by omega)]
    exact ⟨⟨⟨none, 0, []⟩, rfl, rfl, TS.none_row _ (by simp)⟩, rfl⟩
  · rw [if_neg (by omega)]
    exact ⟨⟨t, rfl, rfl, hH t (by simp)⟩, rfl⟩
theorem lawSameTokens_ok {A B : Option Addr} {c d n m : Nat} {l : List Tok} {M L : Mem} (hn : n = l.length) (hm : m = l.length) (h1 : Row M Tok.toV 3 A c l) (h2 : Row M Tok.toV 3 B d l) : Pure Tryd.prog 6 #[.slice A n c, .slice B m d] M L (.bool true) := by
  subst hn hm
  refine Pure.of (lawSameTokens_spec ?_)
  unfold vc_lawSameTokens
  refine IFF.no' (by simp) ?_
  refine LOOP.to l.length (fun j => True) (by simp) ?_
  intro j again hj hI hag
  have hlen := (h1).len
  (repeat apply EX.in)
  refine NEED.mk ⟨rfl, rfl⟩ ?_
  refine IFF.mk (fun hb => ?_) (fun hb => ?_) <;> (try simp only [decide_eq_true_eq, decide_eq_false_iff_not, Bool.and_eq_true, Bool.or_eq_true, Bool.not_eq_true', Bool.not_eq_false', Bool.and_eq_false_iff, Bool.or_eq_false_iff, Bool.not_true, Bool.not_false, Int.not_lt, Int.not_le, Decidable.not_not, ne_eq] at hb)
  · have hlt : j < l.length := by simpa using hb
    have hr := (h1).cell j hlt
    have hd := drop_step hlt
    refine NEED.mk ⟨hr.ne, by omega, by omega⟩ ?_
    (repeat apply EX.in)
    refine NEED.mk (by first | exact hr.up | exact hr) ?_
    have hr2 := h2.cell j hlt
    refine NEED.mk ⟨hr2.ne, by omega, by omega⟩ ?_
    (repeat apply EX.in)
    refine NEED.mk hr2 ?_
    refine IFF.no' (by simp) ?_
    refine NEED.mk (by unfold inI64; omega) ?_
    refine NEED.mk ⟨rfl, rfl⟩ ?_
    exact hag hlt trivial
  · exact ⟨rfl, rfl⟩
theorem lawCheckShows_ok {b : Bok} {M L : Mem} (hT : Tab M) (hb : b.Ok M) : Pure Tryd.prog 3 #[b.toV] M L (.bool true) := by
  refine Pure.of (lawCheckShows_spec ?_)
  unfold vc_lawCheckShows
  refine CALL.post (cShow_ok hT hb) ?_
  rintro v M1 L1 hM1 ⟨⟨t1, e1, rfl, r1⟩, rfl⟩
  (repeat apply EX.in)
  refine NEED.mk rfl ?_
  refine CALL.post (rShownBook_ok (hb.mono hM1)) ?_
  rintro v M2 L2 hM2 ⟨⟨t2, e2, rfl, r2⟩, rfl⟩
  (repeat apply EX.in)
  refine NEED.mk rfl ?_
  refine IFF.yes' (by simp) ?_
  have e : t2.l = t1.l := by rw [e1, e2]
  rw [e] at r2
  refine CALL.pure (lawSameTokens_ok (l := t1.l) rfl (by rw [e]) (r1.mono hM2) r2) ?_
  (repeat apply EX.in)
  refine NEED.mk rfl ?_
  exact ⟨rfl, rfl⟩
end Go.Proofs.YthaamalgeieijabDoor
