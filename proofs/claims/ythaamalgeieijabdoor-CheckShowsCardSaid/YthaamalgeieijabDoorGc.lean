/- Contracts of what makes tokens, on the reference's side: patterns, rules. No condition. -/
import Derived.Test.YthaamalgeieijabDoorGb
set_option linter.unusedVariables false
set_option linter.unusedSimpArgs false
namespace Go.Proofs.YthaamalgeieijabDoor
open Go

theorem Has.head {M : Mem} {t : TS} {ts : List TS} (h : Has M (t :: ts)) : Has M [t] := fun u hu => h u (by rw [List.mem_singleton] at hu; simp [hu])
theorem rPatternShown_ok {p : Pat} {M L : Mem} (hf : p.Fine) (hp : p.Ok M) (hB : (patT p).length ≤ 1099511627776) : Makes Tryd.prog 28 #[p.toV] M L (patT p) := by
  refine rPatternShown_spec ?_
  unfold vc_rPatternShown
  have hH : Has M [] := .nil
  obtain ⟨n1, n2, hw, _⟩ := hf
  have h1 := (name_chars n1).2.2.2
  have h2 := (name_chars n2).2.2.2
  refine NEED.mk (by omega) (NEED.mk (by rw [ByteArray.size_append]; show p.var.size + 3 + _ ≤ _; omega) ?_)
  refine CALL.give hH (rSpoken_ok (l := [word p.var, word (ByteArray.mk #[58]), word p.type]) (by rw [ByteArray.size_append, ByteArray.size_append]; show p.var.size + 3 + _ ≤ _; omega) (by
      have e : (p.var ++ (ByteArray.mk #[32, 58, 32]) ++ p.type).data.toList = p.var.data.toList ++ 32 :: 58 :: 32 :: p.type.data.toList := by simp
      rw [spokenF, e, spl_name n1]
      simp only [spl]
      rw [spl_name0 n2]
      rfl)) fun t1 M1 hM1 ht1 hH => ?_
  have hp := hp.mono hM1
  (repeat apply EX.in)
  refine NEED.mk rfl ?_
  refine IFF.mk (fun hb => ?_) (fun hb => ?_) <;> (try simp only [decide_eq_true_eq, decide_eq_false_iff_not, Bool.and_eq_true, Bool.or_eq_true, Bool.not_eq_true', Bool.not_eq_false', Bool.and_eq_false_iff, Bool.or_eq_false_iff, Bool.not_true, Bool.not_false, Int.not_lt, Int.not_le, Decidable.not_not, ne_eq] at hb)
  · exact ⟨.of hH (by rw [ht1, patT, if_neg (by omega), List.append_nil]), rfl⟩
  have e : patT p = [word p.var, word (ByteArray.mk #[58]), word p.type] ++ ([word (ByteArray.mk #[91])] ++ condT p.whr ++ [word (ByteArray.mk #[93])]) := by rw [patT, if_pos hb]
  rw [e] at hB ⊢
  simp only [List.length_append, List.length_cons, List.length_nil] at hB
  have hwf : p.whr.Fine := by rcases hw with h | h; exact absurd h hb; exact h.2
  refine CALL.give hH (rSpoken_ok (s := (ByteArray.mk #[91])) (l := [word (ByteArray.mk #[91])]) (by decide) (by rfl)) fun t2 M2 hM2 ht2 hH => ?_
  have hp := hp.mono hM2
  (repeat apply EX.in)
  refine NEED.mk rfl ?_
  refine CALL.give hH (rConditionShown_ok _ p.whr (Nat.le_refl _) hwf hp.whr (by omega)) fun t3 M3 hM3 ht3 hH => ?_
  (repeat apply EX.in)
  refine NEED.mk rfl ?_
  refine CALL.give hH (rSpoken_ok (s := (ByteArray.mk #[93])) (l := [word (ByteArray.mk #[93])]) (by decide) (by rfl)) fun t4 M4 hM4 ht4 hH => ?_
  (repeat apply EX.in)
  refine NEED.mk rfl ?_
  refine TOKS hH ([t1, t2, t3, t4]) (by simp) (by simp only [List.flatMap_cons, List.flatMap_nil, List.length_append, List.length_nil, List.length_cons, ht1, ht2, ht3, ht4]; omega) fun t5 M5 hM5 ht5 hH => ?_
  (repeat apply EX.in)
  refine NEED.mk rfl ?_
  exact ⟨.of hH (by rw [ht5]; simp [ht1, ht2, ht3, ht4]), rfl⟩
theorem flat_cons {α β : Type} {f : α → List β} {x : α} {l : List α} : (x :: l).flatMap f = f x ++ l.flatMap f := List.flatMap_cons
/-- Where the showing stands: what is there already, and what comes still. -/
structure Mid (M : Mem) (t : TS) (whole rest : List Tok) : Prop where
  has : Has M [t]
  eq : whole = t.l ++ rest
theorem sp_rule {s : ByteArray} (h : nameF s = 0) : spokenF ((ByteArray.mk #[114, 117, 108, 101, 32]) ++ s ++ (ByteArray.mk #[32, 123])) = [word (ByteArray.mk #[114, 117, 108, 101]), word s, word (ByteArray.mk #[123])] := by
  have e : ((ByteArray.mk #[114, 117, 108, 101, 32]) ++ s ++ (ByteArray.mk #[32, 123])).data.toList = 114 :: 117 :: 108 :: 101 :: 32 :: (s.data.toList ++ 32 :: [123]) := by simp
  rw [spokenF, e]
  simp only [spl]
  rw [spl_name h]
  rfl
theorem sp_type {s : ByteArray} (h : nameF s = 0) : spokenF ((ByteArray.mk #[116, 121, 112, 101, 32]) ++ s ++ (ByteArray.mk #[32, 123])) = [word (ByteArray.mk #[116, 121, 112, 101]), word s, word (ByteArray.mk #[123])] := by
  have e : ((ByteArray.mk #[116, 121, 112, 101, 32]) ++ s ++ (ByteArray.mk #[32, 123])).data.toList = 116 :: 121 :: 112 :: 101 :: 32 :: (s.data.toList ++ 32 :: [123]) := by simp
  rw [spokenF, e]
  simp only [spl]
  rw [spl_name h]
  rfl
theorem sp_emit {s : ByteArray} (h : nameF s = 0) : spokenF ((ByteArray.mk #[101, 109, 105, 116, 32]) ++ s ++ (ByteArray.mk #[32, 40])) = [word (ByteArray.mk #[101, 109, 105, 116]), word s, word (ByteArray.mk #[40])] := by
  have e : ((ByteArray.mk #[101, 109, 105, 116, 32]) ++ s ++ (ByteArray.mk #[32, 40])).data.toList = 101 :: 109 :: 105 :: 116 :: 32 :: (s.data.toList ++ 32 :: [40]) := by simp
  rw [spokenF, e]
  simp only [spl]
  rw [spl_name h]
  rfl
theorem sp_of {s : ByteArray} (h : nameF s = 0) : spokenF ((ByteArray.mk #[111, 102, 32]) ++ s) = [word (ByteArray.mk #[111, 102]), word s] := by
  have e : ((ByteArray.mk #[111, 102, 32]) ++ s).data.toList = 111 :: 102 :: 32 :: s.data.toList := by simp
  rw [spokenF, e]
  simp only [spl]
  rw [spl_name0 h]
  rfl
theorem sp_where {s : ByteArray} (h : nameF s = 0) : spokenF ((ByteArray.mk #[119, 104, 101, 114, 101, 32]) ++ s) = [word (ByteArray.mk #[119, 104, 101, 114, 101]), word s] := by
  have e : ((ByteArray.mk #[119, 104, 101, 114, 101, 32]) ++ s).data.toList = 119 :: 104 :: 101 :: 114 :: 101 :: 32 :: s.data.toList := by simp
  rw [spokenF, e]
  simp only [spl]
  rw [spl_name0 h]
  rfl
theorem sp_semi {s : ByteArray} (h : nameF s = 0) : spokenF (s ++ (ByteArray.mk #[32, 59])) = [word s, word (ByteArray.mk #[59])] := by
  have e : (s ++ (ByteArray.mk #[32, 59])).data.toList = s.data.toList ++ 32 :: [59] := by simp
  rw [spokenF, e, spl_name h]
  rfl
theorem sp_int {s : ByteArray} (h : nameF s = 0) : spokenF (s ++ (ByteArray.mk #[32, 58, 32]) ++ (ByteArray.mk #[105, 110, 116])) = [word s, word (ByteArray.mk #[58]), word (ByteArray.mk #[105, 110, 116])] := by
  have e : (s ++ (ByteArray.mk #[32, 58, 32]) ++ (ByteArray.mk #[105, 110, 116])).data.toList = s.data.toList ++ 32 :: [58, 32, 105, 110, 116] := by simp
  rw [spokenF, e, spl_name h]
  rfl
theorem sp_text {s : ByteArray} (h : nameF s = 0) : spokenF (s ++ (ByteArray.mk #[32, 58, 32]) ++ (ByteArray.mk #[116, 101, 120, 116])) = [word s, word (ByteArray.mk #[58]), word (ByteArray.mk #[116, 101, 120, 116])] := by
  have e : (s ++ (ByteArray.mk #[32, 58, 32]) ++ (ByteArray.mk #[116, 101, 120, 116])).data.toList = s.data.toList ++ 32 :: [58, 32, 116, 101, 120, 116] := by simp
  rw [spokenF, e, spl_name h]
  rfl
theorem relW_sp (i : Nat) (hi : i < relW.length) (h1 : 1 ≤ i) : relW.getD i emptyS = relW[i] ∧ spokenF relW[i] = [word relW[i]] ∧ relW[i].size ≤ 20 := by
  have h14 : i < 14 := hi
  have : i = 1 ∨ i = 2 ∨ i = 3 ∨ i = 4 ∨ i = 5 ∨ i = 6 ∨ i = 7 ∨ i = 8 ∨ i = 9 ∨ i = 10 ∨ i = 11 ∨ i = 12 ∨ i = 13 := by omega
  rcases this with rfl | rfl | rfl | rfl | rfl | rfl | rfl | rfl | rfl | rfl | rfl | rfl | rfl <;> exact ⟨rfl, rfl, of_decide_eq_true rfl⟩
theorem optW {o : Opt} (h : o.Fine) : ∃ i : Nat, ∃ hi : i < relW.length, o.rel = (i : Int) ∧ relW.getD o.rel.toNat emptyS = relW[i] ∧ spokenF relW[i] = [word relW[i]] ∧ relW[i].size ≤ 20 := by
  obtain ⟨h1, h2, _⟩ := h
  have h14 : relW.length = 14 := rfl
  exact ⟨o.rel.toNat, by omega, by omega, relW_sp _ _ (by omega)⟩
set_option maxHeartbeats 2000000 in
theorem rRuleShown_ok {x : Rul} {M L : Mem} (hf : x.Fine) (hx : x.Ok M) (hB : (ruleT x).length ≤ 1099511627776) : Makes Tryd.prog 13 #[x.toV] M L (ruleT x) := by
  refine rRuleShown_spec ?_
  unfold vc_rRuleShown
  have hH : Has M [] := .nil
  have h1 := (name_chars hf.name).2.2.2
  refine NEED.mk (by omega) (NEED.mk (by rw [ByteArray.size_append]; show 5 + _ + 2 ≤ _; omega) ?_)
  refine CALL.give hH (rSpoken_ok (by rw [ByteArray.size_append, ByteArray.size_append]; show 5 + _ + 2 ≤ _; omega) (sp_rule hf.name)) fun t1 M1 hM1 ht1 hH => ?_
  have hx := hx.mono hM1
  (repeat apply EX.in)
  refine NEED.mk rfl ?_
  have er : ruleT x = t1.l ++ (x.whens.flatMap whenT ++ (x.nots.flatMap notT ++ (x.manies.flatMap manyT ++ (x.links.flatMap linkT ++ (emitT x ++ [word (ByteArray.mk #[125])]))))) := by
    rw [ruleT, ht1]; simp only [List.append_assoc]
  generalize hR1 : x.nots.flatMap notT ++ (x.manies.flatMap manyT ++ (x.links.flatMap linkT ++ (emitT x ++ [word (ByteArray.mk #[125])]))) = R1 at er
  generalize hW : ruleT x = W at er hB ⊢
  clear hW
  refine LOOP.gen (fun s : TS × Nat × Mem => ([.slice s.1.A s.1.l.length s.1.c, .int .i64 (s.2.1 : Int)], [], s.2.2, L)) (fun s => s.2.1 ≤ x.whens.length ∧ Has s.2.2 [s.1] ∧ W = s.1.l ++ ((x.whens.drop s.2.1).flatMap whenT ++ R1)) (fun s => x.whens.length - s.2.1) (t1, 0, M1) rfl ⟨Nat.zero_le _, hH, er⟩ ?_
  clear ht1 er hH hM1
  rintro ⟨t, j, M2⟩ again hM2 ⟨hj, hH, hI⟩ hag
  dsimp only at hM2 hj hH hI hag ⊢
  have hx := hx.mono hM2
  have hlen := hx.whens.len
  (repeat apply EX.in)
  refine NEED.mk ⟨rfl, rfl⟩ ?_
  refine IFF.mk (fun hb => ?_) (fun hb => ?_) <;> (try simp only [decide_eq_true_eq, decide_eq_false_iff_not, Bool.and_eq_true, Bool.or_eq_true, Bool.not_eq_true', Bool.not_eq_false', Bool.and_eq_false_iff, Bool.or_eq_false_iff, Bool.not_true, Bool.not_false, Int.not_lt, Int.not_le, Decidable.not_not, ne_eq] at hb)
  · have hlt : j < x.whens.length := by simpa using hb
    have hr := (hx.whens).cell j hlt
    have hd := drop_step hlt
    refine NEED.mk ⟨hr.ne, by omega, by omega⟩ ?_
    (repeat apply EX.in)
    refine NEED.mk (by first | exact hr.up | exact hr) ?_
    have hmem := List.getElem_mem hlt
    obtain hpf := hf.whens _ hmem
    have hpo := hx.when _ hmem
    rw [hd, flat_cons, whenT] at hI
    have hl := congrArg List.length hI
    simp only [List.length_append, List.length_cons, List.length_nil] at hl
    have hn0 := hpf.2.2.2.1
    have hwin := hpf.2.2.2.2
    refine CALL.give hH (rSpoken_ok (s := (ByteArray.mk #[119, 104, 101, 110])) (l := [word (ByteArray.mk #[119, 104, 101, 110])]) (by decide) (by rfl)) fun t3 M3 hM3 ht3 hH => ?_
    have hpo := hpo.mono hM3
    (repeat apply EX.in)
    refine NEED.mk rfl ?_
    refine CALL.give hH (rPatternShown_ok hpf hpo (by omega)) fun t4 M4 hM4 ht4 hH => ?_
    (repeat apply EX.in)
    refine NEED.mk rfl ?_
    refine TOKS hH ([t, t3, t4]) (by simp) (by simp only [List.flatMap_cons, List.flatMap_nil, List.length_append, List.length_nil, List.length_cons, ht3, ht4]; omega) fun t5 M5 hM5 ht5 hH => ?_
    (repeat apply EX.in)
    refine NEED.mk rfl ?_
    generalize hov : (if x.whens[j].window = 1 then [word (ByteArray.mk #[111, 118, 101, 114]), word (ByteArray.mk #[116, 105, 109, 101])] ++ numT x.whens[j].n else if x.whens[j].window = 2 then [word (ByteArray.mk #[111, 118, 101, 114]), word (ByteArray.mk #[108, 97, 115, 116])] ++ numT x.whens[j].n else []) = ov at hI hl
    have hH := hH.head
    refine JOIN.gen (fun s : TS × Mem => ([.slice s.1.A s.1.l.length s.1.c], [], s.2, L)) (fun s => M5.le s.2 ∧ Has s.2 [s.1] ∧ s.1.l = t.l ++ ([word (ByteArray.mk #[119, 104, 101, 110])] ++ patT x.whens[j] ++ if x.whens[j].window = 1 then ov else [])) (fun nx hnx => ?_) ?_
    · refine IFF.mk (fun hb => ?_) (fun hb => ?_) <;> (try simp only [decide_eq_true_eq, decide_eq_false_iff_not, Bool.and_eq_true, Bool.or_eq_true, Bool.not_eq_true', Bool.not_eq_false', Bool.and_eq_false_iff, Bool.or_eq_false_iff, Bool.not_true, Bool.not_false, Int.not_lt, Int.not_le, Decidable.not_not, ne_eq] at hb)
      · rw [if_pos hb] at hov
        rw [if_pos hb, ← hov] at hnx
        have hl2 := congrArg List.length hov
        simp only [List.length_append, List.length_cons, List.length_nil] at hl2
        refine CALL.give hH (rSpoken_ok (s := (ByteArray.mk #[111, 118, 101, 114, 32, 116, 105, 109, 101])) (l := [word (ByteArray.mk #[111, 118, 101, 114]), word (ByteArray.mk #[116, 105, 109, 101])]) (by decide) (by rfl)) fun t6 M6 hM6 ht6 hH => ?_
        (repeat apply EX.in)
        refine NEED.mk rfl ?_
        refine CALL.give hH (rNumeral_ok (n := x.whens[j].n) (by omega)) fun t7 M7 hM7 ht7 hH => ?_
        (repeat apply EX.in)
        refine NEED.mk rfl ?_
        refine TOKS hH ([t5, t6, t7]) (by simp) (by simp only [List.flatMap_cons, List.flatMap_nil, List.length_append, List.length_nil, List.length_cons, ht3, ht4, ht5, ht6, ht7]; omega) fun t8 M8 hM8 ht8 hH => ?_
        (repeat apply EX.in)
        refine NEED.mk rfl ?_
        refine NEED.mk ⟨rfl, rfl⟩ ?_
        refine hnx (t8, M8) ⟨Mem.le_trans hM6 (Mem.le_trans hM7 hM8), hH.head, ?_⟩
        dsimp only
        rw [ht8]; simp [ht3, ht4, ht5, ht6, ht7]
      · refine NEED.mk ⟨rfl, rfl⟩ ?_
        refine hnx (t5, M5) ⟨Mem.le_refl _, hH, ?_⟩
        dsimp only
        rw [ht5, if_neg hb]; simp [ht3, ht4]
    rintro ⟨u, N⟩ hN ⟨_, hH, hu⟩
    dsimp only at hN hH hu ⊢
    (repeat apply EX.in)
    refine NEED.mk ⟨rfl, rfl⟩ ?_
    have next : ∀ (v : TS) M', M2.le M' → Has M' [v] → v.l = t.l ++ ([word (ByteArray.mk #[119, 104, 101, 110])] ++ patT x.whens[j] ++ ov ++ [word (ByteArray.mk #[59])]) → again [.slice v.A v.l.length v.c, .int .i64 ((j : Int) + 1)] [] M' L := by
      intro v M' hM' hHv hv
      refine hag (v, j + 1, M') ⟨hlt, hHv, ?_⟩ (by dsimp only; omega)
      dsimp only
      rw [hI, hv]
      simp only [List.append_assoc]
    refine IFF.mk (fun hb => ?_) (fun hb => ?_) <;> (try simp only [decide_eq_true_eq, decide_eq_false_iff_not, Bool.and_eq_true, Bool.or_eq_true, Bool.not_eq_true', Bool.not_eq_false', Bool.and_eq_false_iff, Bool.or_eq_false_iff, Bool.not_true, Bool.not_false, Int.not_lt, Int.not_le, Decidable.not_not, ne_eq] at hb)
    · have hw1 : ¬ x.whens[j].window = 1 := by omega
      rw [if_neg hw1, List.append_nil] at hu
      rw [if_neg hw1, if_pos hb] at hov
      have hl2 := congrArg List.length hov
      simp only [List.length_append, List.length_cons, List.length_nil] at hl2
      have hul := congrArg List.length hu
      simp only [List.length_append, List.length_cons, List.length_nil] at hul
      refine CALL.give hH (rSpoken_ok (s := (ByteArray.mk #[111, 118, 101, 114, 32, 108, 97, 115, 116])) (l := [word (ByteArray.mk #[111, 118, 101, 114]), word (ByteArray.mk #[108, 97, 115, 116])]) (by decide) (by rfl)) fun t6 M6 hM6 ht6 hH => ?_
      (repeat apply EX.in)
      refine NEED.mk rfl ?_
      refine CALL.give hH (rNumeral_ok (n := x.whens[j].n) (by omega)) fun t7 M7 hM7 ht7 hH => ?_
      (repeat apply EX.in)
      refine NEED.mk rfl ?_
      refine TOKS hH ([u, t6, t7]) (by simp) (by simp only [List.flatMap_cons, List.flatMap_nil, List.length_append, List.length_nil, List.length_cons, ht6, ht7]; omega) fun t8 M8 hM8 ht8 hH => ?_
      (repeat apply EX.in)
      refine NEED.mk rfl ?_
      refine CALL.give hH (rSpoken_ok (s := (ByteArray.mk #[59])) (l := [word (ByteArray.mk #[59])]) (by decide) (by rfl)) fun t9 M9 hM9 ht9 hH => ?_
      (repeat apply EX.in)
      refine NEED.mk rfl ?_
      refine TOKS hH ([t8, t9]) (by simp) (by simp only [List.flatMap_cons, List.flatMap_nil, List.length_append, List.length_nil, List.length_cons, ht6, ht7, ht8, ht9]; omega) fun t10 M10 hM10 ht10 hH => ?_
      (repeat apply EX.in)
      refine NEED.mk rfl ?_
      refine NEED.mk (by unfold inI64; omega) ?_
      refine NEED.mk ⟨rfl, rfl⟩ ?_
      refine next t10 M10 (Mem.le_trans hM3 (Mem.le_trans hM4 (Mem.le_trans hM5 (Mem.le_trans hN (Mem.le_trans hM6 (Mem.le_trans hM7 (Mem.le_trans hM8 (Mem.le_trans hM9 hM10)))))))) hH.head ?_
      rw [ht10, ← hov]; simp [hu, ht6, ht7, ht8, ht9]
    · have hov' : (if x.whens[j].window = 1 then ov else []) = ov := by
        by_cases hw1 : x.whens[j].window = 1
        · rw [if_pos hw1]
        · rw [if_neg hw1, ← hov, if_neg hw1, if_neg hb]
      rw [hov'] at hu
      have hul := congrArg List.length hu
      simp only [List.length_append, List.length_cons, List.length_nil] at hul
      refine CALL.give hH (rSpoken_ok (s := (ByteArray.mk #[59])) (l := [word (ByteArray.mk #[59])]) (by decide) (by rfl)) fun t6 M6 hM6 ht6 hH => ?_
      (repeat apply EX.in)
      refine NEED.mk rfl ?_
      refine TOKS hH ([u, t6]) (by simp) (by simp only [List.flatMap_cons, List.flatMap_nil, List.length_append, List.length_nil, List.length_cons, ht6]; omega) fun t7 M7 hM7 ht7 hH => ?_
      (repeat apply EX.in)
      refine NEED.mk rfl ?_
      refine NEED.mk (by unfold inI64; omega) ?_
      refine NEED.mk ⟨rfl, rfl⟩ ?_
      refine next t7 M7 (Mem.le_trans hM3 (Mem.le_trans hM4 (Mem.le_trans hM5 (Mem.le_trans hN (Mem.le_trans hM6 hM7))))) hH.head ?_
      rw [ht7]; simp [hu, ht6]
  have hd := drop_end (j := j) (l := x.whens) (by simpa using hb)
  rw [hd, List.flatMap_nil, List.nil_append, ← hR1] at hI
  clear hag hd hb hlen
  generalize hR2 : x.manies.flatMap manyT ++ (x.links.flatMap linkT ++ (emitT x ++ [word (ByteArray.mk #[125])])) = R2 at hI
  refine LOOP.gen (fun s : TS × Nat × Mem => ([.slice s.1.A s.1.l.length s.1.c, .int .i64 (s.2.1 : Int)], [], s.2.2, L)) (fun s => s.2.1 ≤ x.nots.length ∧ Has s.2.2 [s.1] ∧ W = s.1.l ++ ((x.nots.drop s.2.1).flatMap notT ++ R2)) (fun s => x.nots.length - s.2.1) (t, 0, M2) rfl ⟨Nat.zero_le _, hH, hI⟩ ?_
  clear hI hH hM2 hj
  rintro ⟨t, j, M2⟩ again hM2 ⟨hj, hH, hI⟩ hag
  dsimp only at hM2 hj hH hI hag ⊢
  have hx := hx.mono hM2
  have hlen := hx.nots.len
  (repeat apply EX.in)
  refine NEED.mk ⟨rfl, rfl⟩ ?_
  refine IFF.mk (fun hb => ?_) (fun hb => ?_) <;> (try simp only [decide_eq_true_eq, decide_eq_false_iff_not, Bool.and_eq_true, Bool.or_eq_true, Bool.not_eq_true', Bool.not_eq_false', Bool.and_eq_false_iff, Bool.or_eq_false_iff, Bool.not_true, Bool.not_false, Int.not_lt, Int.not_le, Decidable.not_not, ne_eq] at hb)
  · have hlt : j < x.nots.length := by simpa using hb
    have hr := (hx.nots).cell j hlt
    have hd := drop_step hlt
    refine NEED.mk ⟨hr.ne, by omega, by omega⟩ ?_
    (repeat apply EX.in)
    refine NEED.mk (by first | exact hr.up | exact hr) ?_
    have hmem := List.getElem_mem hlt
    obtain hpf := hf.nots _ hmem
    have hpo := hx.not _ hmem
    rw [hd, flat_cons, notT] at hI
    have hl := congrArg List.length hI
    simp only [List.length_append, List.length_cons, List.length_nil] at hl
    refine CALL.give hH (rSpoken_ok (s := (ByteArray.mk #[110, 111, 116])) (l := [word (ByteArray.mk #[110, 111, 116])]) (by decide) (by rfl)) fun t3 M3 hM3 ht3 hH => ?_
    have hpo := hpo.mono hM3
    (repeat apply EX.in)
    refine NEED.mk rfl ?_
    refine CALL.give hH (rPatternShown_ok hpf hpo (by omega)) fun t4 M4 hM4 ht4 hH => ?_
    (repeat apply EX.in)
    refine NEED.mk rfl ?_
    refine CALL.give hH (rSpoken_ok (s := (ByteArray.mk #[59])) (l := [word (ByteArray.mk #[59])]) (by decide) (by rfl)) fun t5 M5 hM5 ht5 hH => ?_
    (repeat apply EX.in)
    refine NEED.mk rfl ?_
    refine TOKS hH ([t, t3, t4, t5]) (by simp) (by simp only [List.flatMap_cons, List.flatMap_nil, List.length_append, List.length_nil, List.length_cons, ht3, ht4, ht5]; omega) fun t6 M6 hM6 ht6 hH => ?_
    (repeat apply EX.in)
    refine NEED.mk rfl ?_
    refine NEED.mk (by unfold inI64; omega) ?_
    refine NEED.mk ⟨rfl, rfl⟩ ?_
    refine hag (t6, j + 1, M6) ⟨hlt, hH.head, ?_⟩ (by dsimp only; omega)
    dsimp only
    rw [hI, ht6]; simp [ht3, ht4, ht5]
  have hd := drop_end (j := j) (l := x.nots) (by simpa using hb)
  rw [hd, List.flatMap_nil, List.nil_append, ← hR2] at hI
  clear hag hd hb hlen
  generalize hR3 : x.links.flatMap linkT ++ (emitT x ++ [word (ByteArray.mk #[125])]) = R3 at hI
  refine LOOP.gen (fun s : TS × Nat × Mem => ([.slice s.1.A s.1.l.length s.1.c, .int .i64 (s.2.1 : Int)], [], s.2.2, L)) (fun s => s.2.1 ≤ x.manies.length ∧ Has s.2.2 [s.1] ∧ W = s.1.l ++ ((x.manies.drop s.2.1).flatMap manyT ++ R3)) (fun s => x.manies.length - s.2.1) (t, 0, M2) rfl ⟨Nat.zero_le _, hH, hI⟩ ?_
  clear hI hH hM2 hj
  rintro ⟨t, j, M2⟩ again hM2 ⟨hj, hH, hI⟩ hag
  dsimp only at hM2 hj hH hI hag ⊢
  have hx := hx.mono hM2
  have hlen := hx.manies.len
  (repeat apply EX.in)
  refine NEED.mk ⟨rfl, rfl⟩ ?_
  refine IFF.mk (fun hb => ?_) (fun hb => ?_) <;> (try simp only [decide_eq_true_eq, decide_eq_false_iff_not, Bool.and_eq_true, Bool.or_eq_true, Bool.not_eq_true', Bool.not_eq_false', Bool.and_eq_false_iff, Bool.or_eq_false_iff, Bool.not_true, Bool.not_false, Int.not_lt, Int.not_le, Decidable.not_not, ne_eq] at hb)
  · have hlt : j < x.manies.length := by simpa using hb
    have hr := (hx.manies).cell j hlt
    have hd := drop_step hlt
    refine NEED.mk ⟨hr.ne, by omega, by omega⟩ ?_
    (repeat apply EX.in)
    refine NEED.mk (by first | exact hr.up | exact hr) ?_
    have hmem := List.getElem_mem hlt
    obtain ⟨hpf, hfield, hcount⟩ := hf.manies _ hmem
    have hpo := hx.many _ hmem
    have hn0 := hpf.2.2.2.1
    rw [hd, flat_cons, manyT] at hI
    generalize hof : (if x.manies[j].field ≠ emptyS then [word (ByteArray.mk #[111, 102]), word x.manies[j].field] else []) = tof at hI
    have hl := congrArg List.length hI
    simp only [List.length_append, List.length_cons, List.length_nil] at hl
    refine JOIN.gen (fun s : ByteArray => ([.string s], [], M2, L)) (fun s => s.size ≤ 20 ∧ spokenF s = tof) (fun nx hnx => ?_) ?_
    · refine IFF.mk (fun hb => ?_) (fun hb => ?_) <;> (try simp only [decide_eq_true_eq, decide_eq_false_iff_not, Bool.and_eq_true, Bool.or_eq_true, Bool.not_eq_true', Bool.not_eq_false', Bool.and_eq_false_iff, Bool.or_eq_false_iff, Bool.not_true, Bool.not_false, Int.not_lt, Int.not_le, Decidable.not_not, ne_eq] at hb)
      · have hnf : nameF x.manies[j].field = 0 := by rcases hfield with h | h; exact absurd h hb; exact h
        have := (name_chars hnf).2.2.2
        refine NEED.mk (by omega) ?_
        refine NEED.mk ⟨rfl, rfl⟩ ?_
        exact hnx (_ ++ _) ⟨by rw [ByteArray.size_append]; show 3 + _ ≤ _; omega, by rw [sp_of hnf, ← hof, if_pos hb]⟩
      · refine NEED.mk ⟨rfl, rfl⟩ ?_
        exact hnx emptyS ⟨by decide, by rw [← hof, if_neg (by simpa using hb)]; rfl⟩
    rintro s _ ⟨hs1, hs2⟩
    dsimp only
    (repeat apply EX.in)
    refine NEED.mk ⟨rfl, rfl⟩ ?_
    refine CALL.give hH (rSpoken_ok (s := (ByteArray.mk #[109, 97, 110, 121])) (l := [word (ByteArray.mk #[109, 97, 110, 121])]) (by decide) (by rfl)) fun t3 M3 hM3 ht3 hH => ?_
    have hpo := hpo.mono hM3
    (repeat apply EX.in)
    refine NEED.mk rfl ?_
    refine CALL.give hH (rNumeral_ok (n := x.manies[j].count) (by omega)) fun t4 M4 hM4 ht4 hH => ?_
    have hpo := hpo.mono hM4
    (repeat apply EX.in)
    refine NEED.mk rfl ?_
    refine CALL.give hH (rSpoken_ok (by omega) hs2) fun t5 M5 hM5 ht5 hH => ?_
    have hpo := hpo.mono hM5
    (repeat apply EX.in)
    refine NEED.mk rfl ?_
    refine CALL.give hH (rPatternShown_ok hpf hpo (by omega)) fun t6 M6 hM6 ht6 hH => ?_
    (repeat apply EX.in)
    refine NEED.mk rfl ?_
    refine CALL.give hH (rSpoken_ok (s := (ByteArray.mk #[119, 105, 116, 104, 105, 110])) (l := [word (ByteArray.mk #[119, 105, 116, 104, 105, 110])]) (by decide) (by rfl)) fun t7 M7 hM7 ht7 hH => ?_
    (repeat apply EX.in)
    refine NEED.mk rfl ?_
    refine CALL.give hH (rNumeral_ok (n := x.manies[j].pat.n) (by omega)) fun t8 M8 hM8 ht8 hH => ?_
    (repeat apply EX.in)
    refine NEED.mk rfl ?_
    refine CALL.give hH (rSpoken_ok (s := (ByteArray.mk #[59])) (l := [word (ByteArray.mk #[59])]) (by decide) (by rfl)) fun t9 M9 hM9 ht9 hH => ?_
    (repeat apply EX.in)
    refine NEED.mk rfl ?_
    refine TOKS hH ([t, t3, t4, t5, t6, t7, t8, t9]) (by simp) (by simp only [List.flatMap_cons, List.flatMap_nil, List.length_append, List.length_nil, List.length_cons, ht3, ht4, ht5, ht6, ht7, ht8, ht9]; omega) fun t10 M10 hM10 ht10 hH => ?_
    (repeat apply EX.in)
    refine NEED.mk rfl ?_
    refine NEED.mk (by unfold inI64; omega) ?_
    refine NEED.mk ⟨rfl, rfl⟩ ?_
    refine hag (t10, j + 1, M10) ⟨hlt, hH.head, ?_⟩ (by dsimp only; omega)
    dsimp only
    rw [hI, ht10]; simp [ht3, ht4, ht5, ht6, ht7, ht8, ht9]
  have hd := drop_end (j := j) (l := x.manies) (by simpa using hb)
  rw [hd, List.flatMap_nil, List.nil_append, ← hR3] at hI
  clear hag hd hb hlen
  generalize hR4 : emitT x ++ [word (ByteArray.mk #[125])] = R4 at hI
  refine LOOP.gen (fun s : TS × Nat × Mem => ([.slice s.1.A s.1.l.length s.1.c, .int .i64 (s.2.1 : Int)], [], s.2.2, L)) (fun s => s.2.1 ≤ x.links.length ∧ Has s.2.2 [s.1] ∧ W = s.1.l ++ ((x.links.drop s.2.1).flatMap linkT ++ R4)) (fun s => x.links.length - s.2.1) (t, 0, M2) rfl ⟨Nat.zero_le _, hH, hI⟩ ?_
  clear hI hH hM2 hj
  rintro ⟨t, j, M2⟩ again hM2 ⟨hj, hH, hI⟩ hag
  dsimp only at hM2 hj hH hI hag ⊢
  have hx := hx.mono hM2
  have hlen := hx.links.len
  (repeat apply EX.in)
  refine NEED.mk ⟨rfl, rfl⟩ ?_
  refine IFF.mk (fun hb => ?_) (fun hb => ?_) <;> (try simp only [decide_eq_true_eq, decide_eq_false_iff_not, Bool.and_eq_true, Bool.or_eq_true, Bool.not_eq_true', Bool.not_eq_false', Bool.and_eq_false_iff, Bool.or_eq_false_iff, Bool.not_true, Bool.not_false, Int.not_lt, Int.not_le, Decidable.not_not, ne_eq] at hb)
  · have hlt : j < x.links.length := by simpa using hb
    have hr := (hx.links).cell j hlt
    have hd := drop_step hlt
    refine NEED.mk ⟨hr.ne, by omega, by omega⟩ ?_
    (repeat apply EX.in)
    refine NEED.mk (by first | exact hr.up | exact hr) ?_
    have hmem := List.getElem_mem hlt
    obtain ⟨hnl, hnr, hopts⟩ := hf.links _ hmem
    have hko := hx.link _ hmem
    have h1 := (name_chars hnl).2.2.2
    have h2 := (name_chars hnr).2.2.2
    rw [hd, flat_cons, linkT] at hI
    have hl := congrArg List.length hI
    simp only [List.length_append, List.length_cons, List.length_nil] at hl
    refine NEED.mk (by omega) ?_
    refine CALL.give hH (rSpoken_ok (by rw [ByteArray.size_append]; show 6 + _ ≤ _; omega) (sp_where hnl)) fun t3 M3 hM3 ht3 hH => ?_
    have hko := hko.mono hM3
    (repeat apply EX.in)
    refine NEED.mk rfl ?_
    refine TOKS hH ([t, t3]) (by simp) (by simp only [List.flatMap_cons, List.flatMap_nil, List.length_append, List.length_nil, List.length_cons, ht3]; omega) fun t4 M4 hM4 ht4 hH => ?_
    have hko := hko.mono hM4
    (repeat apply EX.in)
    refine NEED.mk rfl ?_
    generalize hR5 : [word x.links[j].right, word (ByteArray.mk #[59])] ++ ((x.links.drop (j + 1)).flatMap linkT ++ R4) = R5
    have hI2 : W = t4.l ++ (optsT true x.links[j].opts ++ R5) := by rw [hI, ← hR5, ht4]; simp [ht3]
    have hlo := hko.opts.len
    refine LOOP.gen (fun s : TS × Nat × Mem => ([.slice s.1.A s.1.l.length s.1.c, .int .i64 (s.2.1 : Int)], [], s.2.2, L)) (fun s => s.2.1 ≤ x.links[j].opts.length ∧ Has s.2.2 [s.1] ∧ W = s.1.l ++ (optsT (decide (s.2.1 = 0)) (x.links[j].opts.drop s.2.1) ++ R5)) (fun s => x.links[j].opts.length - s.2.1) (t4, 0, M4) rfl ⟨Nat.zero_le _, hH.head, hI2⟩ ?_
    rintro ⟨t, i, N⟩ again2 hN ⟨hi, hH, hI2⟩ hag2
    dsimp only at hN hi hH hI2 hag2 ⊢
    have hko := hko.mono hN
    (repeat apply EX.in)
    refine NEED.mk ⟨rfl, rfl⟩ ?_
    refine IFF.mk (fun hb => ?_) (fun hb => ?_) <;> (try simp only [decide_eq_true_eq, decide_eq_false_iff_not, Bool.and_eq_true, Bool.or_eq_true, Bool.not_eq_true', Bool.not_eq_false', Bool.and_eq_false_iff, Bool.or_eq_false_iff, Bool.not_true, Bool.not_false, Int.not_lt, Int.not_le, Decidable.not_not, ne_eq] at hb)
    · have hlt2 : i < x.links[j].opts.length := by omega
      have hr := hko.opts.cell i hlt2
      have hd2 := drop_step hlt2
      have hof := hopts _ (List.getElem_mem hlt2)
      obtain ⟨q, hq, q1, q2, q3, q4⟩ := optW hof
      have hlow := hof.2.2
      rw [hd2, optsT] at hI2
      generalize hsep : (if decide (i = 0) = true then [] else [word (ByteArray.mk #[111, 114])]) = sep at hI2
      have hl2 := congrArg List.length hI2
      simp only [List.length_append] at hl2
      refine NEED.mk ⟨hr.ne, by omega, by omega⟩ ?_
      (repeat apply EX.in)
      refine NEED.mk (by first | exact hr.up | exact hr) ?_
      refine JOIN.gen (fun s : TS × Mem => ([.slice s.1.A s.1.l.length s.1.c], [], s.2, L)) (fun s => N.le s.2 ∧ Has s.2 [s.1] ∧ s.1.l = t.l ++ sep) (fun nx hnx => ?_) ?_
      · refine IFF.mk (fun hb => ?_) (fun hb => ?_) <;> (try simp only [decide_eq_true_eq, decide_eq_false_iff_not, Bool.and_eq_true, Bool.or_eq_true, Bool.not_eq_true', Bool.not_eq_false', Bool.and_eq_false_iff, Bool.or_eq_false_iff, Bool.not_true, Bool.not_false, Int.not_lt, Int.not_le, Decidable.not_not, ne_eq] at hb)
        · have hs1 : sep = [word (ByteArray.mk #[111, 114])] := by rw [← hsep, if_neg (by simp; omega)]
          rw [hs1] at hl2 hnx
          simp only [List.length_cons, List.length_nil] at hl2
          refine CALL.give hH (rSpoken_ok (s := (ByteArray.mk #[111, 114])) (l := [word (ByteArray.mk #[111, 114])]) (by decide) (by rfl)) fun t5 M5 hM5 ht5 hH => ?_
          (repeat apply EX.in)
          refine NEED.mk rfl ?_
          refine TOKS hH ([t, t5]) (by simp) (by simp only [List.flatMap_cons, List.flatMap_nil, List.length_append, List.length_nil, List.length_cons, ht5]; omega) fun t6 M6 hM6 ht6 hH => ?_
          (repeat apply EX.in)
          refine NEED.mk rfl ?_
          refine NEED.mk ⟨rfl, rfl⟩ ?_
          refine hnx (t6, M6) ⟨Mem.le_trans hM5 hM6, hH.head, ?_⟩
          dsimp only
          rw [ht6]; simp [ht5]
        · refine NEED.mk ⟨rfl, rfl⟩ ?_
          refine hnx (t, N) ⟨Mem.le_refl _, hH, ?_⟩
          dsimp only
          rw [← hsep, if_pos (by simp; omega), List.append_nil]
      rintro ⟨u, N2⟩ hN2 ⟨_, hH, hu⟩
      dsimp only at hN2 hH hu ⊢
      (repeat apply EX.in)
      refine NEED.mk ⟨rfl, rfl⟩ ?_
      refine CALL.post rRelationWords_ok ?_
      rintro v N3 L3 hN3 ⟨⟨B, rfl, hrw⟩, rfl⟩
      (repeat apply EX.in)
      refine NEED.mk rfl ?_
      have hH := hH.mono hN3
      have hrc := hrw.cell q hq
      rw [q1]
      refine NEED.mk ⟨hrc.ne, by omega, by have : relW.length = 14 := rfl; omega⟩ ?_
      apply EX.in
      refine NEED.mk hrc.up ?_
      have eo : optT x.links[j].opts[i] = [word relW[q]] ++ (if x.links[j].opts[i].low = 0 ∧ x.links[j].opts[i].high < 0 then [] else [word (ByteArray.mk #[40])] ++ numT x.links[j].opts[i].low ++ [word (ByteArray.mk #[44])] ++ (if x.links[j].opts[i].high < 0 then [word (ByteArray.mk #[97, 110, 121])] else numT x.links[j].opts[i].high) ++ [word (ByteArray.mk #[41])]) := by
        rw [optT, q2]
      rw [eo] at hI2 hl2
      have hul := congrArg List.length hu
      simp only [List.length_append, List.length_cons, List.length_nil] at hul hl2
      have next : ∀ (v : TS) M', N.le M' → Has M' [v] → v.l = t.l ++ (sep ++ ([word relW[q]] ++ (if x.links[j].opts[i].low = 0 ∧ x.links[j].opts[i].high < 0 then [] else [word (ByteArray.mk #[40])] ++ numT x.links[j].opts[i].low ++ [word (ByteArray.mk #[44])] ++ (if x.links[j].opts[i].high < 0 then [word (ByteArray.mk #[97, 110, 121])] else numT x.links[j].opts[i].high) ++ [word (ByteArray.mk #[41])]))) → again2 [.slice v.A v.l.length v.c, .int .i64 ((i : Int) + 1)] [] M' L3 := by
        intro v M' hM' hHv hv
        refine hag2 (v, i + 1, M') ⟨hlt2, hHv, ?_⟩ (by dsimp only; omega)
        dsimp only
        rw [hI2, hv, show decide (i + 1 = 0) = false by simp]
        simp only [List.append_assoc]
      refine CALL.give hH (rSpoken_ok (by omega) q3) fun t7 M7 hM7 ht7 hH => ?_
      (repeat apply EX.in)
      refine NEED.mk rfl ?_
      refine TOKS hH ([u, t7]) (by simp) (by simp only [List.flatMap_cons, List.flatMap_nil, List.length_append, List.length_nil, List.length_cons, ht7]; omega) fun t8 M8 hM8 ht8 hH => ?_
      (repeat apply EX.in)
      refine NEED.mk rfl ?_
      have hN0 := Mem.le_trans hN2 (Mem.le_trans hN3 (Mem.le_trans hM7 hM8))
      refine IFF.mk (fun hb => ?_) (fun hb => ?_) <;> (try simp only [decide_eq_true_eq, decide_eq_false_iff_not, Bool.and_eq_true, Bool.or_eq_true, Bool.not_eq_true', Bool.not_eq_false', Bool.and_eq_false_iff, Bool.or_eq_false_iff, Bool.not_true, Bool.not_false, Int.not_lt, Int.not_le, Decidable.not_not, ne_eq] at hb)
      · have hhi : ¬ x.links[j].opts[i].high < 0 := by omega
        rw [if_neg (by omega), if_neg hhi] at next hl2
        simp only [List.length_append, List.length_cons, List.length_nil] at hl2
        refine CALL.give hH (rSpoken_ok (s := (ByteArray.mk #[40])) (l := [word (ByteArray.mk #[40])]) (by decide) (by rfl)) fun t9 M9 hM9 ht9 hH => ?_
        (repeat apply EX.in)
        refine NEED.mk rfl ?_
        refine CALL.give hH (rNumeral_ok (n := x.links[j].opts[i].low) (by omega)) fun t10 M10 hM10 ht10 hH => ?_
        (repeat apply EX.in)
        refine NEED.mk rfl ?_
        refine CALL.give hH (rSpoken_ok (s := (ByteArray.mk #[44])) (l := [word (ByteArray.mk #[44])]) (by decide) (by rfl)) fun t11 M11 hM11 ht11 hH => ?_
        (repeat apply EX.in)
        refine NEED.mk rfl ?_
        refine CALL.give hH (rNumeral_ok (n := x.links[j].opts[i].high) (by omega)) fun t12 M12 hM12 ht12 hH => ?_
        (repeat apply EX.in)
        refine NEED.mk rfl ?_
        refine CALL.give hH (rSpoken_ok (s := (ByteArray.mk #[41])) (l := [word (ByteArray.mk #[41])]) (by decide) (by rfl)) fun t13 M13 hM13 ht13 hH => ?_
        (repeat apply EX.in)
        refine NEED.mk rfl ?_
        refine TOKS hH ([t8, t9, t10, t11, t12, t13]) (by simp) (by simp only [List.flatMap_cons, List.flatMap_nil, List.length_append, List.length_nil, List.length_cons, ht7, ht8, ht9, ht10, ht11, ht12, ht13]; omega) fun t14 M14 hM14 ht14 hH => ?_
        (repeat apply EX.in)
        refine NEED.mk rfl ?_
        refine NEED.mk (by unfold inI64; omega) ?_
        refine NEED.mk ⟨rfl, rfl⟩ ?_
        refine next t14 M14 (Mem.le_trans hN0 (Mem.le_trans hM9 (Mem.le_trans hM10 (Mem.le_trans hM11 (Mem.le_trans hM12 (Mem.le_trans hM13 hM14)))))) hH.head ?_
        rw [ht14]; simp [hu, ht7, ht8, ht9, ht10, ht11, ht12, ht13]
      have hhi : x.links[j].opts[i].high < 0 := by omega
      refine IFF.mk (fun hb => ?_) (fun hb => ?_) <;> (try simp only [decide_eq_true_eq, decide_eq_false_iff_not, Bool.and_eq_true, Bool.or_eq_true, Bool.not_eq_true', Bool.not_eq_false', Bool.and_eq_false_iff, Bool.or_eq_false_iff, Bool.not_true, Bool.not_false, Int.not_lt, Int.not_le, Decidable.not_not, ne_eq] at hb)
      · rw [if_neg (by omega), if_pos hhi] at next hl2
        simp only [List.length_append, List.length_cons, List.length_nil] at hl2
        refine CALL.give hH (rSpoken_ok (s := (ByteArray.mk #[40])) (l := [word (ByteArray.mk #[40])]) (by decide) (by rfl)) fun t9 M9 hM9 ht9 hH => ?_
        (repeat apply EX.in)
        refine NEED.mk rfl ?_
        refine CALL.give hH (rNumeral_ok (n := x.links[j].opts[i].low) (by omega)) fun t10 M10 hM10 ht10 hH => ?_
        (repeat apply EX.in)
        refine NEED.mk rfl ?_
        refine CALL.give hH (rSpoken_ok (s := (ByteArray.mk #[44, 32, 97, 110, 121, 32, 41])) (l := [word (ByteArray.mk #[44]), word (ByteArray.mk #[97, 110, 121]), word (ByteArray.mk #[41])]) (by decide) (by rfl)) fun t11 M11 hM11 ht11 hH => ?_
        (repeat apply EX.in)
        refine NEED.mk rfl ?_
        refine TOKS hH ([t8, t9, t10, t11]) (by simp) (by simp only [List.flatMap_cons, List.flatMap_nil, List.length_append, List.length_nil, List.length_cons, ht7, ht8, ht9, ht10, ht11]; omega) fun t12 M12 hM12 ht12 hH => ?_
        (repeat apply EX.in)
        refine NEED.mk rfl ?_
        refine NEED.mk (by unfold inI64; omega) ?_
        refine NEED.mk ⟨rfl, rfl⟩ ?_
        refine next t12 M12 (Mem.le_trans hN0 (Mem.le_trans hM9 (Mem.le_trans hM10 (Mem.le_trans hM11 hM12)))) hH.head ?_
        rw [ht12]; simp [hu, ht7, ht8, ht9, ht10, ht11]
      · rw [if_pos ⟨by omega, hhi⟩] at next
        refine NEED.mk (by unfold inI64; omega) ?_
        refine NEED.mk ⟨rfl, rfl⟩ ?_
        refine next t8 M8 hN0 hH.head ?_
        rw [ht8]; simp [hu, ht7]
    have hd2 := drop_end (j := i) (l := x.links[j].opts) (by omega)
    rw [hd2, optsT, List.nil_append, ← hR5] at hI2
    have hl2 := congrArg List.length hI2
    simp only [List.length_append, List.length_cons, List.length_nil] at hl2
    refine NEED.mk (by omega) ?_
    refine CALL.give hH (rSpoken_ok (by rw [ByteArray.size_append]; show _ + 2 ≤ _; omega) (sp_semi hnr)) fun t5 M5 hM5 ht5 hH => ?_
    (repeat apply EX.in)
    refine NEED.mk rfl ?_
    refine TOKS hH ([t, t5]) (by simp) (by simp only [List.flatMap_cons, List.flatMap_nil, List.length_append, List.length_nil, List.length_cons, ht5]; omega) fun t6 M6 hM6 ht6 hH => ?_
    (repeat apply EX.in)
    refine NEED.mk rfl ?_
    refine NEED.mk (by unfold inI64; omega) ?_
    refine NEED.mk ⟨rfl, rfl⟩ ?_
    refine hag (t6, j + 1, M6) ⟨hlt, hH.head, ?_⟩ (by dsimp only; omega)
    dsimp only
    rw [hI2, ht6]; simp [ht5]
  have hd := drop_end (j := j) (l := x.links) (by simpa using hb)
  rw [hd, List.flatMap_nil, List.nil_append, ← hR4] at hI
  clear hag hd hb hlen
  have hl := congrArg List.length hI
  simp only [List.length_append, List.length_cons, List.length_nil] at hl
  refine IFF.mk (fun hb => ?_) (fun hb => ?_) <;> (try simp only [decide_eq_true_eq, decide_eq_false_iff_not, Bool.and_eq_true, Bool.or_eq_true, Bool.not_eq_true', Bool.not_eq_false', Bool.and_eq_false_iff, Bool.or_eq_false_iff, Bool.not_true, Bool.not_false, Int.not_lt, Int.not_le, Decidable.not_not, ne_eq] at hb)
  · have hne : nameF x.etype = 0 := by rcases hf.etype with h | h; exact absurd h hb; exact h
    have h1 := (name_chars hne).2.2.2
    have ee : emitT x = [word (ByteArray.mk #[101, 109, 105, 116]), word x.etype, word (ByteArray.mk #[40])] ++ evalsT true x.evals ++ [word (ByteArray.mk #[41]), word (ByteArray.mk #[59])] := by rw [emitT, if_pos hb]
    rw [ee] at hI hl
    simp only [List.length_append, List.length_cons, List.length_nil] at hl
    have hev := hf.evals hb
    refine NEED.mk (by omega) (NEED.mk (by rw [ByteArray.size_append]; show 5 + _ + 2 ≤ _; omega) ?_)
    refine CALL.give hH (rSpoken_ok (by rw [ByteArray.size_append, ByteArray.size_append]; show 5 + _ + 2 ≤ _; omega) (sp_emit hne)) fun t3 M3 hM3 ht3 hH => ?_
    have hx := hx.mono hM3
    (repeat apply EX.in)
    refine NEED.mk rfl ?_
    refine TOKS hH ([t, t3]) (by simp) (by simp only [List.flatMap_cons, List.flatMap_nil, List.length_append, List.length_nil, List.length_cons, ht3]; omega) fun t4 M4 hM4 ht4 hH => ?_
    have hx := hx.mono hM4
    (repeat apply EX.in)
    refine NEED.mk rfl ?_
    have hI2 : W = t4.l ++ (evalsT true x.evals ++ [word (ByteArray.mk #[41]), word (ByteArray.mk #[59]), word (ByteArray.mk #[125])]) := by rw [hI, ht4]; simp [ht3]
    have hlo := hx.evals.len
    refine LOOP.gen (fun s : TS × Nat × Mem => ([.slice s.1.A s.1.l.length s.1.c, .int .i64 (s.2.1 : Int)], [], s.2.2, L)) (fun s => s.2.1 ≤ x.evals.length ∧ Has s.2.2 [s.1] ∧ W = s.1.l ++ (evalsT (decide (s.2.1 = 0)) (x.evals.drop s.2.1) ++ [word (ByteArray.mk #[41]), word (ByteArray.mk #[59]), word (ByteArray.mk #[125])])) (fun s => x.evals.length - s.2.1) (t4, 0, M4) rfl ⟨Nat.zero_le _, hH.head, hI2⟩ ?_
    rintro ⟨t, i, N⟩ again2 hN ⟨hi, hH, hI2⟩ hag2
    dsimp only at hN hi hH hI2 hag2 ⊢
    have hx := hx.mono hN
    (repeat apply EX.in)
    refine NEED.mk ⟨rfl, rfl⟩ ?_
    refine IFF.mk (fun hb => ?_) (fun hb => ?_) <;> (try simp only [decide_eq_true_eq, decide_eq_false_iff_not, Bool.and_eq_true, Bool.or_eq_true, Bool.not_eq_true', Bool.not_eq_false', Bool.and_eq_false_iff, Bool.or_eq_false_iff, Bool.not_true, Bool.not_false, Int.not_lt, Int.not_le, Decidable.not_not, ne_eq] at hb)
    · have hlt2 : i < x.evals.length := by omega
      have hd2 := drop_step hlt2
      have hof := hev _ (List.getElem_mem hlt2)
      rw [hd2, evalsT] at hI2
      have hl2 := congrArg List.length hI2
      simp only [List.length_append] at hl2
      refine IFF.mk (fun hb => ?_) (fun hb => ?_) <;> (try simp only [decide_eq_true_eq, decide_eq_false_iff_not, Bool.and_eq_true, Bool.or_eq_true, Bool.not_eq_true', Bool.not_eq_false', Bool.and_eq_false_iff, Bool.or_eq_false_iff, Bool.not_true, Bool.not_false, Int.not_lt, Int.not_le, Decidable.not_not, ne_eq] at hb)
      · rw [if_neg (by simp; omega)] at hI2 hl2
        simp only [List.length_cons, List.length_nil] at hl2
        refine CALL.give hH (rSpoken_ok (s := (ByteArray.mk #[44])) (l := [word (ByteArray.mk #[44])]) (by decide) (by rfl)) fun t5 M5 hM5 ht5 hH => ?_
        have hx := hx.mono hM5
        (repeat apply EX.in)
        refine NEED.mk rfl ?_
        refine TOKS hH ([t, t5]) (by simp) (by simp only [List.flatMap_cons, List.flatMap_nil, List.length_append, List.length_nil, List.length_cons, ht5]; omega) fun t6 M6 hM6 ht6 hH => ?_
        have hx := hx.mono hM6
        (repeat apply EX.in)
        refine NEED.mk rfl ?_
        have hr := hx.evals.cell i hlt2
        refine NEED.mk ⟨hr.ne, by omega, by omega⟩ ?_
        (repeat apply EX.in)
        refine NEED.mk (by first | exact hr.up | exact hr) ?_
        refine CALL.give hH (rSideShown_ok hof) fun t7 M7 hM7 ht7 hH => ?_
        (repeat apply EX.in)
        refine NEED.mk rfl ?_
        refine TOKS hH ([t6, t7]) (by simp) (by simp only [List.flatMap_cons, List.flatMap_nil, List.length_append, List.length_nil, List.length_cons, ht5, ht6, ht7]; omega) fun t8 M8 hM8 ht8 hH => ?_
        (repeat apply EX.in)
        refine NEED.mk rfl ?_
        refine NEED.mk (by unfold inI64; omega) ?_
        refine NEED.mk ⟨rfl, rfl⟩ ?_
        refine hag2 (t8, i + 1, M8) ⟨hlt2, hH.head, ?_⟩ (by dsimp only; omega)
        dsimp only
        rw [hI2, ht8, show decide (i + 1 = 0) = false by simp]; simp [ht5, ht6, ht7]
      · rw [if_pos (by simp; omega), List.nil_append] at hI2
        rw [if_pos (by simp; omega)] at hl2
        simp only [List.length_nil] at hl2
        have hr := hx.evals.cell i hlt2
        refine NEED.mk ⟨hr.ne, by omega, by omega⟩ ?_
        (repeat apply EX.in)
        refine NEED.mk (by first | exact hr.up | exact hr) ?_
        refine CALL.give hH (rSideShown_ok hof) fun t7 M7 hM7 ht7 hH => ?_
        (repeat apply EX.in)
        refine NEED.mk rfl ?_
        refine TOKS hH ([t, t7]) (by simp) (by simp only [List.flatMap_cons, List.flatMap_nil, List.length_append, List.length_nil, List.length_cons, ht7]; omega) fun t8 M8 hM8 ht8 hH => ?_
        (repeat apply EX.in)
        refine NEED.mk rfl ?_
        refine NEED.mk (by unfold inI64; omega) ?_
        refine NEED.mk ⟨rfl, rfl⟩ ?_
        refine hag2 (t8, i + 1, M8) ⟨hlt2, hH.head, ?_⟩ (by dsimp only; omega)
        dsimp only
        rw [hI2, ht8, show decide (i + 1 = 0) = false by simp]; simp [ht7]
    have hd2 := drop_end (j := i) (l := x.evals) (by omega)
    rw [hd2, evalsT, List.nil_append] at hI2
    have hl2 := congrArg List.length hI2
    simp only [List.length_append, List.length_cons, List.length_nil] at hl2
    refine CALL.give hH (rSpoken_ok (s := (ByteArray.mk #[41, 32, 59])) (l := [word (ByteArray.mk #[41]), word (ByteArray.mk #[59])]) (by decide) (by rfl)) fun t5 M5 hM5 ht5 hH => ?_
    (repeat apply EX.in)
    refine NEED.mk rfl ?_
    refine TOKS hH ([t, t5]) (by simp) (by simp only [List.flatMap_cons, List.flatMap_nil, List.length_append, List.length_nil, List.length_cons, ht5]; omega) fun t6 M6 hM6 ht6 hH => ?_
    (repeat apply EX.in)
    refine NEED.mk rfl ?_
    refine CALL.give hH (rSpoken_ok (s := (ByteArray.mk #[125])) (l := [word (ByteArray.mk #[125])]) (by decide) (by rfl)) fun t7 M7 hM7 ht7 hH => ?_
    (repeat apply EX.in)
    refine NEED.mk rfl ?_
    refine TOKS hH ([t6, t7]) (by simp) (by simp only [List.flatMap_cons, List.flatMap_nil, List.length_append, List.length_nil, List.length_cons, ht5, ht6, ht7]; omega) fun t8 M8 hM8 ht8 hH => ?_
    (repeat apply EX.in)
    refine NEED.mk rfl ?_
    refine ⟨.of hH ?_, rfl⟩
    rw [hI2, ht8]; simp [ht5, ht6, ht7]
  · have ee : emitT x = [] := by rw [emitT, if_neg (by simpa using hb)]
    rw [ee, List.nil_append] at hI
    refine CALL.give hH (rSpoken_ok (s := (ByteArray.mk #[125])) (l := [word (ByteArray.mk #[125])]) (by decide) (by rfl)) fun t3 M3 hM3 ht3 hH => ?_
    (repeat apply EX.in)
    refine NEED.mk rfl ?_
    refine TOKS hH ([t, t3]) (by simp) (by simp only [List.flatMap_cons, List.flatMap_nil, List.length_append, List.length_nil, List.length_cons, ht3]; omega) fun t4 M4 hM4 ht4 hH => ?_
    (repeat apply EX.in)
    refine NEED.mk rfl ?_
    refine ⟨.of hH ?_, rfl⟩
    rw [hI, ht4]; simp [ht3]
end Go.Proofs.YthaamalgeieijabDoor
