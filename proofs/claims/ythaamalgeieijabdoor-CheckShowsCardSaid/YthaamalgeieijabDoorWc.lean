/- Contracts: how a book is shown, by both sides; the law. No condition. -/
import Derived.Test.YthaamalgeieijabDoorWb
set_option linter.unusedVariables false
set_option linter.unusedSimpArgs false
namespace Go.Proofs.YthaamalgeieijabDoor
open Go

set_option maxHeartbeats 2000000 in
theorem wRule_ok {g : Nat} {x : Rul} {items : List Tok} {L0 M L : Mem} (hW : Wr L0 M L g items) (hT : Tab M) (hf : x.Fine) (hx : x.Ok M) (hB : items.length + (ruleT x).length ≤ 1099511627776) : Puts Tryd.prog 9 #[.pointer (some ⟨g, 0, none⟩), x.toV] L0 M L g items (ruleT x) := by
  refine Puts.of (wRule_spec ?_)
  unfold vc_wRule
  have h1 := (name_chars hf.name).2.2.1
  have er : ruleT x = [word (ByteArray.mk #[114, 117, 108, 101]), word x.name, word (ByteArray.mk #[123])] ++ (x.whens.flatMap whenT ++ (x.nots.flatMap notT ++ (x.manies.flatMap manyT ++ (x.links.flatMap linkT ++ (emitT x ++ [word (ByteArray.mk #[125])]))))) := by
    rw [ruleT]; simp only [List.append_assoc]
  have hB1 : items.length + 3 ≤ 1099511627776 := by rw [er] at hB; simp only [List.length_append, List.length_cons, List.length_nil] at hB; omega
  refine PUTW hW ([(ByteArray.mk #[114, 117, 108, 101]), x.name, (ByteArray.mk #[123])]) (by intro s hs; simp at hs; (try rcases hs with rfl | rfl | rfl) <;> (try subst hs) <;> first | omega | decide) (by simp only [List.length_append, List.length_cons, List.length_nil, List.length_map, List.length_nil]; omega) fun M1 L1 hM1 hW => ?_
  have hx := hx.mono hM1
  have hT := hT.mono hM1
  refine NEED.mk rfl ?_
  generalize hR1 : x.nots.flatMap notT ++ (x.manies.flatMap manyT ++ (x.links.flatMap linkT ++ (emitT x ++ [word (ByteArray.mk #[125])]))) = R1 at er
  generalize hWW : ruleT x = W at er hB ⊢
  clear hWW
  refine LOOP.gen (fun s : List Tok × Nat × Mem × Mem => ([.int .i64 (s.2.1 : Int)], [], s.2.2.1, s.2.2.2)) (fun s => s.2.1 ≤ x.whens.length ∧ Wr L0 s.2.2.1 s.2.2.2 g (items ++ s.1) ∧ W = s.1 ++ ((x.whens.drop s.2.1).flatMap whenT ++ R1)) (fun s => x.whens.length - s.2.1) (_, 0, M1, L1) rfl ⟨Nat.zero_le _, hW, er⟩ ?_
  clear er hM1 hB1
  rintro ⟨out, j, M2, L2⟩ again hM2 ⟨hj, hW, hI⟩ hag
  dsimp only at hM2 hj hW hI hag ⊢
  have hx := hx.mono hM2
  have hT := hT.mono hM2
  have hlen := hx.whens.len
  (repeat apply EX.in)
  refine NEED.mk ⟨rfl, rfl⟩ ?_
  refine IFF.mk (fun hb => ?_) (fun hb => ?_) <;> (try simp only [decide_eq_true_eq, decide_eq_false_iff_not, Bool.and_eq_true, Bool.or_eq_true, Bool.not_eq_true', Bool.not_eq_false', Bool.and_eq_false_iff, Bool.or_eq_false_iff, Bool.not_true, Bool.not_false, Int.not_lt, Int.not_le, Decidable.not_not, ne_eq] at hb)
  · have hlt : j < x.whens.length := by simpa using hb
    have hr := (hx.whens).cell j hlt
    have hd := drop_step hlt
    refine NEED.mk ⟨hr.ne, by omega, by omega⟩ ?_
    (repeat apply EX.in)
    refine NEED.mk (by first | exact hr.up | exact hr) ?_
    have hmem := List.getElem_mem hlt
    obtain hpf := hf.whens _ hmem
    have hpo := hx.when _ hmem
    rw [hd, flat_cons, whenT] at hI
    have hl := congrArg List.length hI
    simp only [List.length_append, List.length_cons, List.length_nil] at hl
    have hn0 := hpf.2.2.2.1
    have hwin := hpf.2.2.2.2
    refine PUTW hW ([(ByteArray.mk #[119, 104, 101, 110])]) (by intro s hs; simp at hs; (try rcases hs with rfl | rfl | rfl) <;> (try subst hs) <;> first | omega | decide) (by simp only [List.length_append, List.length_cons, List.length_nil, List.length_map, List.length_nil]; omega) fun M3 L3 hM3 hW => ?_
    have hpo := hpo.mono hM3
    refine NEED.mk rfl ?_
    refine CALL.puts (wPattern_ok hW hpf hpo (by simp; omega)) fun L4 hW => ?_
    refine NEED.mk rfl ?_
    refine IFF.mk (fun hb => ?_) (fun hb => ?_) <;> (try simp only [decide_eq_true_eq, decide_eq_false_iff_not, Bool.and_eq_true, Bool.or_eq_true, Bool.not_eq_true', Bool.not_eq_false', Bool.and_eq_false_iff, Bool.or_eq_false_iff, Bool.not_true, Bool.not_false, Int.not_lt, Int.not_le, Decidable.not_not, ne_eq] at hb)
    · refine NEED.mk ⟨by omega, by omega⟩ ?_
      have hst : ∃ w, strAt [emptyS, (ByteArray.mk #[116, 105, 109, 101]), (ByteArray.mk #[108, 97, 115, 116])] x.whens[j].window.toNat = w ∧ 0 < w.size ∧ (if x.whens[j].window = 1 then [word (ByteArray.mk #[111, 118, 101, 114]), word (ByteArray.mk #[116, 105, 109, 101])] ++ numT x.whens[j].n else if x.whens[j].window = 2 then [word (ByteArray.mk #[111, 118, 101, 114]), word (ByteArray.mk #[108, 97, 115, 116])] ++ numT x.whens[j].n else []) = [word (ByteArray.mk #[111, 118, 101, 114]), word w] ++ numT x.whens[j].n := by
        have hw12 : x.whens[j].window = 1 ∨ x.whens[j].window = 2 := by omega
        rcases hw12 with h | h <;> rw [h]
        · exact ⟨(ByteArray.mk #[116, 105, 109, 101]), rfl, by decide, rfl⟩
        · exact ⟨(ByteArray.mk #[108, 97, 115, 116]), rfl, by decide, rfl⟩
      obtain ⟨w, hw1, hw2, hw3⟩ := hst
      rw [hw3] at hI hl
      simp only [List.length_append, List.length_cons, List.length_nil] at hl
      rw [show (ByteArray.mk #[]) = emptyS from rfl, hw1]
      refine PUTW hW ([(ByteArray.mk #[111, 118, 101, 114]), w]) (by intro s hs; simp at hs; (try rcases hs with rfl | rfl | rfl) <;> (try subst hs) <;> first | omega | decide) (by simp only [List.length_append, List.length_cons, List.length_nil, List.length_map, List.length_nil]; omega) fun M5 L5 hM5 hW => ?_
      refine NEED.mk rfl ?_
      refine CALL.puts (wNumber_ok hW (by omega) (by simp; omega)) fun L6 hW => ?_
      refine NEED.mk rfl ?_
      refine PUTW hW ([(ByteArray.mk #[59])]) (by intro s hs; simp at hs; (try rcases hs with rfl | rfl | rfl) <;> (try subst hs) <;> first | omega | decide) (by simp only [List.length_append, List.length_cons, List.length_nil, List.length_map, List.length_nil]; omega) fun M7 L7 hM7 hW => ?_
      refine NEED.mk rfl ?_
      refine NEED.mk (by unfold inI64; omega) ?_
      refine NEED.mk ⟨rfl, rfl⟩ ?_
      refine hag (out ++ ([word (ByteArray.mk #[119, 104, 101, 110])] ++ patT x.whens[j] ++ ([word (ByteArray.mk #[111, 118, 101, 114]), word w] ++ numT x.whens[j].n) ++ [word (ByteArray.mk #[59])]), j + 1, M7, L7) ⟨hlt, by simpa using hW, ?_⟩ (by dsimp only; omega)
      dsimp only
      rw [hI]; simp only [List.append_assoc]
    · rw [if_neg (by omega), if_neg (by omega), List.append_nil] at hI
      refine PUTW hW ([(ByteArray.mk #[59])]) (by intro s hs; simp at hs; (try rcases hs with rfl | rfl | rfl) <;> (try subst hs) <;> first | omega | decide) (by simp only [List.length_append, List.length_cons, List.length_nil, List.length_map, List.length_nil]; omega) fun M5 L5 hM5 hW => ?_
      refine NEED.mk rfl ?_
      refine NEED.mk (by unfold inI64; omega) ?_
      refine NEED.mk ⟨rfl, rfl⟩ ?_
      refine hag (out ++ ([word (ByteArray.mk #[119, 104, 101, 110])] ++ patT x.whens[j] ++ [word (ByteArray.mk #[59])]), j + 1, M5, L5) ⟨hlt, by simpa using hW, ?_⟩ (by dsimp only; omega)
      dsimp only
      rw [hI]; simp only [List.append_assoc]
  have hd := drop_end (j := j) (l := x.whens) (by simpa using hb)
  rw [hd, List.flatMap_nil, List.nil_append, ← hR1] at hI
  clear hag hd hb hlen
  generalize hR2 : x.manies.flatMap manyT ++ (x.links.flatMap linkT ++ (emitT x ++ [word (ByteArray.mk #[125])])) = R2 at hI
  refine LOOP.gen (fun s : List Tok × Nat × Mem × Mem => ([.int .i64 (s.2.1 : Int)], [], s.2.2.1, s.2.2.2)) (fun s => s.2.1 ≤ x.nots.length ∧ Wr L0 s.2.2.1 s.2.2.2 g (items ++ s.1) ∧ W = s.1 ++ ((x.nots.drop s.2.1).flatMap notT ++ R2)) (fun s => x.nots.length - s.2.1) (_, 0, M2, L2) rfl ⟨Nat.zero_le _, hW, hI⟩ ?_
  clear hI hM2 hj hW
  rintro ⟨out, j, M2, L2⟩ again hM2 ⟨hj, hW, hI⟩ hag
  dsimp only at hM2 hj hW hI hag ⊢
  have hx := hx.mono hM2
  have hT := hT.mono hM2
  have hlen := hx.nots.len
  (repeat apply EX.in)
  refine NEED.mk ⟨rfl, rfl⟩ ?_
  refine IFF.mk (fun hb => ?_) (fun hb => ?_) <;> (try simp only [decide_eq_true_eq, decide_eq_false_iff_not, Bool.and_eq_true, Bool.or_eq_true, Bool.not_eq_true', Bool.not_eq_false', Bool.and_eq_false_iff, Bool.or_eq_false_iff, Bool.not_true, Bool.not_false, Int.not_lt, Int.not_le, Decidable.not_not, ne_eq] at hb)
  · have hlt : j < x.nots.length := by simpa using hb
    have hr := (hx.nots).cell j hlt
    have hd := drop_step hlt
    refine NEED.mk ⟨hr.ne, by omega, by omega⟩ ?_
    (repeat apply EX.in)
    refine NEED.mk (by first | exact hr.up | exact hr) ?_
    have hmem := List.getElem_mem hlt
    obtain hpf := hf.nots _ hmem
    have hpo := hx.not _ hmem
    rw [hd, flat_cons, notT] at hI
    have hl := congrArg List.length hI
    simp only [List.length_append, List.length_cons, List.length_nil] at hl
    refine PUTW hW ([(ByteArray.mk #[110, 111, 116])]) (by intro s hs; simp at hs; (try rcases hs with rfl | rfl | rfl) <;> (try subst hs) <;> first | omega | decide) (by simp only [List.length_append, List.length_cons, List.length_nil, List.length_map, List.length_nil]; omega) fun M3 L3 hM3 hW => ?_
    have hpo := hpo.mono hM3
    refine NEED.mk rfl ?_
    refine CALL.puts (wPattern_ok hW hpf hpo (by simp; omega)) fun L4 hW => ?_
    refine NEED.mk rfl ?_
    refine PUTW hW ([(ByteArray.mk #[59])]) (by intro s hs; simp at hs; (try rcases hs with rfl | rfl | rfl) <;> (try subst hs) <;> first | omega | decide) (by simp only [List.length_append, List.length_cons, List.length_nil, List.length_map, List.length_nil]; omega) fun M5 L5 hM5 hW => ?_
    refine NEED.mk rfl ?_
    refine NEED.mk (by unfold inI64; omega) ?_
    refine NEED.mk ⟨rfl, rfl⟩ ?_
    refine hag (out ++ ([word (ByteArray.mk #[110, 111, 116])] ++ patT x.nots[j] ++ [word (ByteArray.mk #[59])]), j + 1, M5, L5) ⟨hlt, by simpa using hW, ?_⟩ (by dsimp only; omega)
    dsimp only
    rw [hI]; simp only [List.append_assoc]
  have hd := drop_end (j := j) (l := x.nots) (by simpa using hb)
  rw [hd, List.flatMap_nil, List.nil_append, ← hR2] at hI
  clear hag hd hb hlen
  generalize hR3 : x.links.flatMap linkT ++ (emitT x ++ [word (ByteArray.mk #[125])]) = R3 at hI
  refine LOOP.gen (fun s : List Tok × Nat × Mem × Mem => ([.int .i64 (s.2.1 : Int)], [], s.2.2.1, s.2.2.2)) (fun s => s.2.1 ≤ x.manies.length ∧ Wr L0 s.2.2.1 s.2.2.2 g (items ++ s.1) ∧ W = s.1 ++ ((x.manies.drop s.2.1).flatMap manyT ++ R3)) (fun s => x.manies.length - s.2.1) (_, 0, M2, L2) rfl ⟨Nat.zero_le _, hW, hI⟩ ?_
  clear hI hM2 hj hW
  rintro ⟨out, j, M2, L2⟩ again hM2 ⟨hj, hW, hI⟩ hag
  dsimp only at hM2 hj hW hI hag ⊢
  have hx := hx.mono hM2
  have hT := hT.mono hM2
  have hlen := hx.manies.len
  (repeat apply EX.in)
  refine NEED.mk ⟨rfl, rfl⟩ ?_
  refine IFF.mk (fun hb => ?_) (fun hb => ?_) <;> (try simp only [decide_eq_true_eq, decide_eq_false_iff_not, Bool.and_eq_true, Bool.or_eq_true, Bool.not_eq_true', Bool.not_eq_false', Bool.and_eq_false_iff, Bool.or_eq_false_iff, Bool.not_true, Bool.not_false, Int.not_lt, Int.not_le, Decidable.not_not, ne_eq] at hb)
  · have hlt : j < x.manies.length := by simpa using hb
    have hr := (hx.manies).cell j hlt
    have hd := drop_step hlt
    refine NEED.mk ⟨hr.ne, by omega, by omega⟩ ?_
    (repeat apply EX.in)
    refine NEED.mk (by first | exact hr.up | exact hr) ?_
    have hmem := List.getElem_mem hlt
    obtain ⟨hpf, hfield, hcount⟩ := hf.manies _ hmem
    have hpo := hx.many _ hmem
    have hn0 := hpf.2.2.2.1
    rw [hd, flat_cons, manyT] at hI
    generalize hof : (if x.manies[j].field ≠ emptyS then [word (ByteArray.mk #[111, 102]), word x.manies[j].field] else []) = tof at hI
    have hl := congrArg List.length hI
    simp only [List.length_append, List.length_cons, List.length_nil] at hl
    refine PUTW hW ([(ByteArray.mk #[109, 97, 110, 121])]) (by intro s hs; simp at hs; (try rcases hs with rfl | rfl | rfl) <;> (try subst hs) <;> first | omega | decide) (by simp only [List.length_append, List.length_cons, List.length_nil, List.length_map, List.length_nil]; omega) fun M3 L3 hM3 hW => ?_
    have hpo := hpo.mono hM3
    refine NEED.mk rfl ?_
    refine CALL.puts (wNumber_ok hW (by omega) (by simp; omega)) fun L4 hW => ?_
    refine NEED.mk rfl ?_
    refine JOIN.gen (fun s : Mem × Mem => ([], [], s.1, s.2)) (fun s => Wr L0 s.1 s.2 g (items ++ out ++ [word (ByteArray.mk #[109, 97, 110, 121])] ++ numT x.manies[j].count ++ tof)) (fun nx hnx => ?_) ?_
    · refine IFF.mk (fun hb => ?_) (fun hb => ?_) <;> (try simp only [decide_eq_true_eq, decide_eq_false_iff_not, Bool.and_eq_true, Bool.or_eq_true, Bool.not_eq_true', Bool.not_eq_false', Bool.and_eq_false_iff, Bool.or_eq_false_iff, Bool.not_true, Bool.not_false, Int.not_lt, Int.not_le, Decidable.not_not, ne_eq] at hb)
      · have hnf : nameF x.manies[j].field = 0 := by rcases hfield with h | h; exact absurd h hb; exact h
        have := (name_chars hnf).2.2.1
        rw [if_pos hb] at hof
        rw [← hof] at hl hnx
        simp only [List.length_append, List.length_cons, List.length_nil] at hl
        refine PUTW hW ([(ByteArray.mk #[111, 102]), x.manies[j].field]) (by intro s hs; simp at hs; (try rcases hs with rfl | rfl | rfl) <;> (try subst hs) <;> first | omega | decide) (by simp only [List.length_append, List.length_cons, List.length_nil, List.length_map, List.length_nil]; omega) fun M5 L5 hM5 hW => ?_
        refine NEED.mk rfl ?_
        refine NEED.mk ⟨rfl, rfl⟩ ?_
        exact hnx (M5, L5) (by simpa using hW)
      · refine NEED.mk ⟨rfl, rfl⟩ ?_
        rw [if_neg (by simpa using hb)] at hof
        refine hnx (M3, L4) ?_
        dsimp only
        rw [← hof]
        simpa using hW
    rintro ⟨M6, L6⟩ hM6 hW
    dsimp only at hM6 hW ⊢
    have hpo := hpo.mono hM6
    refine NEED.mk ⟨rfl, rfl⟩ ?_
    refine CALL.puts (wPattern_ok hW hpf hpo (by simp; omega)) fun L7 hW => ?_
    refine NEED.mk rfl ?_
    refine PUTW hW ([(ByteArray.mk #[119, 105, 116, 104, 105, 110])]) (by intro s hs; simp at hs; (try rcases hs with rfl | rfl | rfl) <;> (try subst hs) <;> first | omega | decide) (by simp only [List.length_append, List.length_cons, List.length_nil, List.length_map, List.length_nil]; omega) fun M8 L8 hM8 hW => ?_
    refine NEED.mk rfl ?_
    refine CALL.puts (wNumber_ok hW (by omega) (by simp; omega)) fun L9 hW => ?_
    refine NEED.mk rfl ?_
    refine PUTW hW ([(ByteArray.mk #[59])]) (by intro s hs; simp at hs; (try rcases hs with rfl | rfl | rfl) <;> (try subst hs) <;> first | omega | decide) (by simp only [List.length_append, List.length_cons, List.length_nil, List.length_map, List.length_nil]; omega) fun M10 L10 hM10 hW => ?_
    refine NEED.mk rfl ?_
    refine NEED.mk (by unfold inI64; omega) ?_
    refine NEED.mk ⟨rfl, rfl⟩ ?_
    refine hag (out ++ ([word (ByteArray.mk #[109, 97, 110, 121])] ++ numT x.manies[j].count ++ tof ++ patT x.manies[j].pat ++ [word (ByteArray.mk #[119, 105, 116, 104, 105, 110])] ++ numT x.manies[j].pat.n ++ [word (ByteArray.mk #[59])]), j + 1, M10, L10) ⟨hlt, by simpa using hW, ?_⟩ (by dsimp only; omega)
    dsimp only
    rw [hI]; simp only [List.append_assoc]
  have hd := drop_end (j := j) (l := x.manies) (by simpa using hb)
  rw [hd, List.flatMap_nil, List.nil_append, ← hR3] at hI
  clear hag hd hb hlen
  generalize hR4 : emitT x ++ [word (ByteArray.mk #[125])] = R4 at hI
  refine LOOP.gen (fun s : List Tok × Nat × Mem × Mem => ([.int .i64 (s.2.1 : Int)], [], s.2.2.1, s.2.2.2)) (fun s => s.2.1 ≤ x.links.length ∧ Wr L0 s.2.2.1 s.2.2.2 g (items ++ s.1) ∧ W = s.1 ++ ((x.links.drop s.2.1).flatMap linkT ++ R4)) (fun s => x.links.length - s.2.1) (_, 0, M2, L2) rfl ⟨Nat.zero_le _, hW, hI⟩ ?_
  clear hI hM2 hj hW
  rintro ⟨out, j, M2, L2⟩ again hM2 ⟨hj, hW, hI⟩ hag
  dsimp only at hM2 hj hW hI hag ⊢
  have hx := hx.mono hM2
  have hT := hT.mono hM2
  have hlen := hx.links.len
  (repeat apply EX.in)
  refine NEED.mk ⟨rfl, rfl⟩ ?_
  refine IFF.mk (fun hb => ?_) (fun hb => ?_) <;> (try simp only [decide_eq_true_eq, decide_eq_false_iff_not, Bool.and_eq_true, Bool.or_eq_true, Bool.not_eq_true', Bool.not_eq_false', Bool.and_eq_false_iff, Bool.or_eq_false_iff, Bool.not_true, Bool.not_false, Int.not_lt, Int.not_le, Decidable.not_not, ne_eq] at hb)
  · have hlt : j < x.links.length := by simpa using hb
    have hr := (hx.links).cell j hlt
    have hd := drop_step hlt
    refine NEED.mk ⟨hr.ne, by omega, by omega⟩ ?_
    (repeat apply EX.in)
    refine NEED.mk (by first | exact hr.up | exact hr) ?_
    have hmem := List.getElem_mem hlt
    obtain ⟨hnl, hnr, hopts⟩ := hf.links _ hmem
    have hko := hx.link _ hmem
    have h1 := (name_chars hnl).2.2.1
    have h2 := (name_chars hnr).2.2.1
    rw [hd, flat_cons, linkT] at hI
    have hl := congrArg List.length hI
    simp only [List.length_append, List.length_cons, List.length_nil] at hl
    refine PUTW hW ([(ByteArray.mk #[119, 104, 101, 114, 101]), x.links[j].left]) (by intro s hs; simp at hs; (try rcases hs with rfl | rfl | rfl) <;> (try subst hs) <;> first | omega | decide) (by simp only [List.length_append, List.length_cons, List.length_nil, List.length_map, List.length_nil]; omega) fun M3 L3 hM3 hW => ?_
    have hko := hko.mono hM3
    have hT := hT.mono hM3
    refine NEED.mk rfl ?_
    generalize hR5 : [word x.links[j].right, word (ByteArray.mk #[59])] ++ ((x.links.drop (j + 1)).flatMap linkT ++ R4) = R5
    have hI2 : W = out ++ [word (ByteArray.mk #[119, 104, 101, 114, 101]), word x.links[j].left] ++ (optsT true x.links[j].opts ++ R5) := by rw [hI, ← hR5]; simp only [List.append_assoc]
    have hlo := hko.opts.len
    refine LOOP.gen (fun s : List Tok × Nat × Mem × Mem => ([.int .i64 (s.2.1 : Int)], [], s.2.2.1, s.2.2.2)) (fun s => s.2.1 ≤ x.links[j].opts.length ∧ Wr L0 s.2.2.1 s.2.2.2 g (items ++ s.1) ∧ W = s.1 ++ (optsT (decide (s.2.1 = 0)) (x.links[j].opts.drop s.2.1) ++ R5)) (fun s => x.links[j].opts.length - s.2.1) (out ++ [word (ByteArray.mk #[119, 104, 101, 114, 101]), word x.links[j].left], 0, M3, L3) rfl ⟨Nat.zero_le _, by simpa using hW, hI2⟩ ?_
    rintro ⟨out2, i, N, K⟩ again2 hN ⟨hi, hW, hI2⟩ hag2
    dsimp only at hN hi hW hI2 hag2 ⊢
    have hko := hko.mono hN
    have hT := hT.mono hN
    (repeat apply EX.in)
    refine NEED.mk ⟨rfl, rfl⟩ ?_
    refine IFF.mk (fun hb => ?_) (fun hb => ?_) <;> (try simp only [decide_eq_true_eq, decide_eq_false_iff_not, Bool.and_eq_true, Bool.or_eq_true, Bool.not_eq_true', Bool.not_eq_false', Bool.and_eq_false_iff, Bool.or_eq_false_iff, Bool.not_true, Bool.not_false, Int.not_lt, Int.not_le, Decidable.not_not, ne_eq] at hb)
    · have hlt2 : i < x.links[j].opts.length := by omega
      have hr := hko.opts.cell i hlt2
      have hd2 := drop_step hlt2
      have hof := hopts _ (List.getElem_mem hlt2)
      rw [hd2, optsT] at hI2
      have hl2 := congrArg List.length hI2
      simp only [List.length_append] at hl2
      refine NEED.mk ⟨hr.ne, by omega, by omega⟩ ?_
      (repeat apply EX.in)
      refine NEED.mk (by first | exact hr.up | exact hr) ?_
      refine IFF.mk (fun hb => ?_) (fun hb => ?_) <;> (try simp only [decide_eq_true_eq, decide_eq_false_iff_not, Bool.and_eq_true, Bool.or_eq_true, Bool.not_eq_true', Bool.not_eq_false', Bool.and_eq_false_iff, Bool.or_eq_false_iff, Bool.not_true, Bool.not_false, Int.not_lt, Int.not_le, Decidable.not_not, ne_eq] at hb)
      · rw [if_neg (by simp; omega)] at hI2 hl2
        simp only [List.length_cons, List.length_nil] at hl2
        refine PUTW hW ([(ByteArray.mk #[111, 114])]) (by intro s hs; simp at hs; (try rcases hs with rfl | rfl | rfl) <;> (try subst hs) <;> first | omega | decide) (by simp only [List.length_append, List.length_cons, List.length_nil, List.length_map, List.length_nil]; omega) fun M5 L5 hM5 hW => ?_
        have hT := hT.mono hM5
        refine NEED.mk rfl ?_
        refine CALL.puts (wOption_ok (o := x.links[j].opts[i]) hW hT hof (by simp; omega)) fun L6 hW => ?_
        refine NEED.mk rfl ?_
        refine NEED.mk (by unfold inI64; omega) ?_
        refine NEED.mk ⟨rfl, rfl⟩ ?_
        refine hag2 (out2 ++ [word (ByteArray.mk #[111, 114])] ++ optT x.links[j].opts[i], i + 1, M5, L6) ⟨hlt2, by simpa using hW, ?_⟩ (by dsimp only; omega)
        dsimp only
        rw [hI2, show decide (i + 1 = 0) = false by simp]; simp only [List.append_assoc]
      · rw [if_pos (by simp; omega), List.nil_append] at hI2
        rw [if_pos (by simp; omega)] at hl2
        simp only [List.length_nil] at hl2
        refine CALL.puts (wOption_ok (o := x.links[j].opts[i]) hW hT hof (by simp; omega)) fun L6 hW => ?_
        refine NEED.mk rfl ?_
        refine NEED.mk (by unfold inI64; omega) ?_
        refine NEED.mk ⟨rfl, rfl⟩ ?_
        refine hag2 (out2 ++ optT x.links[j].opts[i], i + 1, N, L6) ⟨hlt2, by simpa using hW, ?_⟩ (by dsimp only; omega)
        dsimp only
        rw [hI2, show decide (i + 1 = 0) = false by simp]; simp only [List.append_assoc]
    have hd2 := drop_end (j := i) (l := x.links[j].opts) (by omega)
    rw [hd2, optsT, List.nil_append, ← hR5] at hI2
    have hl2 := congrArg List.length hI2
    simp only [List.length_append, List.length_cons, List.length_nil] at hl2
    refine PUTW hW ([x.links[j].right, (ByteArray.mk #[59])]) (by intro s hs; simp at hs; (try rcases hs with rfl | rfl | rfl) <;> (try subst hs) <;> first | omega | decide) (by simp only [List.length_append, List.length_cons, List.length_nil, List.length_map, List.length_nil]; omega) fun M5 L5 hM5 hW => ?_
    refine NEED.mk rfl ?_
    refine NEED.mk (by unfold inI64; omega) ?_
    refine NEED.mk ⟨rfl, rfl⟩ ?_
    refine hag (out2 ++ [word x.links[j].right, word (ByteArray.mk #[59])], j + 1, M5, L5) ⟨hlt, by simpa using hW, ?_⟩ (by dsimp only; omega)
    dsimp only
    rw [hI2]; simp only [List.append_assoc]
  have hd := drop_end (j := j) (l := x.links) (by simpa using hb)
  rw [hd, List.flatMap_nil, List.nil_append, ← hR4] at hI
  clear hag hd hb hlen
  have hl := congrArg List.length hI
  simp only [List.length_append, List.length_cons, List.length_nil] at hl
  refine IFF.mk (fun hb => ?_) (fun hb => ?_) <;> (try simp only [decide_eq_true_eq, decide_eq_false_iff_not, Bool.and_eq_true, Bool.or_eq_true, Bool.not_eq_true', Bool.not_eq_false', Bool.and_eq_false_iff, Bool.or_eq_false_iff, Bool.not_true, Bool.not_false, Int.not_lt, Int.not_le, Decidable.not_not, ne_eq] at hb)
  · have hne : nameF x.etype = 0 := by rcases hf.etype with h | h; exact absurd h hb; exact h
    have h1 := (name_chars hne).2.2.1
    have ee : emitT x = [word (ByteArray.mk #[101, 109, 105, 116]), word x.etype, word (ByteArray.mk #[40])] ++ evalsT true x.evals ++ [word (ByteArray.mk #[41]), word (ByteArray.mk #[59])] := by rw [emitT, if_pos hb]
    rw [ee] at hI hl
    simp only [List.length_append, List.length_cons, List.length_nil] at hl
    have hev := hf.evals hb
    refine PUTW hW ([(ByteArray.mk #[101, 109, 105, 116]), x.etype, (ByteArray.mk #[40])]) (by intro s hs; simp at hs; (try rcases hs with rfl | rfl | rfl) <;> (try subst hs) <;> first | omega | decide) (by simp only [List.length_append, List.length_cons, List.length_nil, List.length_map, List.length_nil]; omega) fun M3 L3 hM3 hW => ?_
    have hx := hx.mono hM3
    refine NEED.mk rfl ?_
    have hI2 : W = out ++ [word (ByteArray.mk #[101, 109, 105, 116]), word x.etype, word (ByteArray.mk #[40])] ++ (evalsT true x.evals ++ [word (ByteArray.mk #[41]), word (ByteArray.mk #[59]), word (ByteArray.mk #[125])]) := by rw [hI]; simp
    have hlo := hx.evals.len
    refine LOOP.gen (fun s : List Tok × Nat × Mem × Mem => ([.int .i64 (s.2.1 : Int)], [], s.2.2.1, s.2.2.2)) (fun s => s.2.1 ≤ x.evals.length ∧ Wr L0 s.2.2.1 s.2.2.2 g (items ++ s.1) ∧ W = s.1 ++ (evalsT (decide (s.2.1 = 0)) (x.evals.drop s.2.1) ++ [word (ByteArray.mk #[41]), word (ByteArray.mk #[59]), word (ByteArray.mk #[125])])) (fun s => x.evals.length - s.2.1) (out ++ [word (ByteArray.mk #[101, 109, 105, 116]), word x.etype, word (ByteArray.mk #[40])], 0, M3, L3) rfl ⟨Nat.zero_le _, by simpa using hW, hI2⟩ ?_
    rintro ⟨out2, i, N, K⟩ again2 hN ⟨hi, hW, hI2⟩ hag2
    dsimp only at hN hi hW hI2 hag2 ⊢
    have hx := hx.mono hN
    (repeat apply EX.in)
    refine NEED.mk ⟨rfl, rfl⟩ ?_
    refine IFF.mk (fun hb => ?_) (fun hb => ?_) <;> (try simp only [decide_eq_true_eq, decide_eq_false_iff_not, Bool.and_eq_true, Bool.or_eq_true, Bool.not_eq_true', Bool.not_eq_false', Bool.and_eq_false_iff, Bool.or_eq_false_iff, Bool.not_true, Bool.not_false, Int.not_lt, Int.not_le, Decidable.not_not, ne_eq] at hb)
    · have hlt2 : i < x.evals.length := by omega
      have hd2 := drop_step hlt2
      have hof := hev _ (List.getElem_mem hlt2)
      rw [hd2, evalsT] at hI2
      have hl2 := congrArg List.length hI2
      simp only [List.length_append] at hl2
      have hr := hx.evals.cell i hlt2
      refine NEED.mk ⟨hr.ne, by omega, by omega⟩ ?_
      (repeat apply EX.in)
      refine NEED.mk (by first | exact hr.up | exact hr) ?_
      refine IFF.mk (fun hb => ?_) (fun hb => ?_) <;> (try simp only [decide_eq_true_eq, decide_eq_false_iff_not, Bool.and_eq_true, Bool.or_eq_true, Bool.not_eq_true', Bool.not_eq_false', Bool.and_eq_false_iff, Bool.or_eq_false_iff, Bool.not_true, Bool.not_false, Int.not_lt, Int.not_le, Decidable.not_not, ne_eq] at hb)
      · rw [if_neg (by simp; omega)] at hI2 hl2
        simp only [List.length_cons, List.length_nil] at hl2
        refine PUTW hW ([(ByteArray.mk #[44])]) (by intro s hs; simp at hs; (try rcases hs with rfl | rfl | rfl) <;> (try subst hs) <;> first | omega | decide) (by simp only [List.length_append, List.length_cons, List.length_nil, List.length_map, List.length_nil]; omega) fun M5 L5 hM5 hW => ?_
        refine NEED.mk rfl ?_
        refine CALL.puts (wSide_ok (o := x.evals[i]) hW hof (by simp; omega)) fun L6 hW => ?_
        refine NEED.mk rfl ?_
        refine NEED.mk (by unfold inI64; omega) ?_
        refine NEED.mk ⟨rfl, rfl⟩ ?_
        refine hag2 (out2 ++ [word (ByteArray.mk #[44])] ++ sideT x.evals[i], i + 1, M5, L6) ⟨hlt2, by simpa using hW, ?_⟩ (by dsimp only; omega)
        dsimp only
        rw [hI2, show decide (i + 1 = 0) = false by simp]; simp only [List.append_assoc]
      · rw [if_pos (by simp; omega), List.nil_append] at hI2
        rw [if_pos (by simp; omega)] at hl2
        simp only [List.length_nil] at hl2
        refine CALL.puts (wSide_ok (o := x.evals[i]) hW hof (by simp; omega)) fun L6 hW => ?_
        refine NEED.mk rfl ?_
        refine NEED.mk (by unfold inI64; omega) ?_
        refine NEED.mk ⟨rfl, rfl⟩ ?_
        refine hag2 (out2 ++ sideT x.evals[i], i + 1, N, L6) ⟨hlt2, by simpa using hW, ?_⟩ (by dsimp only; omega)
        dsimp only
        rw [hI2, show decide (i + 1 = 0) = false by simp]; simp only [List.append_assoc]
    have hd2 := drop_end (j := i) (l := x.evals) (by omega)
    rw [hd2, evalsT, List.nil_append] at hI2
    have hl2 := congrArg List.length hI2
    simp only [List.length_append, List.length_cons, List.length_nil] at hl2
    refine PUTW hW ([(ByteArray.mk #[41]), (ByteArray.mk #[59])]) (by intro s hs; simp at hs; (try rcases hs with rfl | rfl | rfl) <;> (try subst hs) <;> first | omega | decide) (by simp only [List.length_append, List.length_cons, List.length_nil, List.length_map, List.length_nil]; omega) fun M5 L5 hM5 hW => ?_
    refine NEED.mk rfl ?_
    refine PUTW hW ([(ByteArray.mk #[125])]) (by intro s hs; simp at hs; (try rcases hs with rfl | rfl | rfl) <;> (try subst hs) <;> first | omega | decide) (by simp only [List.length_append, List.length_cons, List.length_nil, List.length_map, List.length_nil]; omega) fun M6 L6 hM6 hW => ?_
    refine NEED.mk rfl ?_
    refine ⟨rfl, ?_⟩
    rw [hI2]; simpa using hW
  · have ee : emitT x = [] := by rw [emitT, if_neg (by simpa using hb)]
    rw [ee, List.nil_append] at hI
    refine PUTW hW ([(ByteArray.mk #[125])]) (by intro s hs; simp at hs; (try rcases hs with rfl | rfl | rfl) <;> (try subst hs) <;> first | omega | decide) (by simp only [List.length_append, List.length_cons, List.length_nil, List.length_map, List.length_nil]; omega) fun M3 L3 hM3 hW => ?_
    refine NEED.mk rfl ?_
    refine ⟨rfl, ?_⟩
    rw [hI]; simpa using hW
end Go.Proofs.YthaamalgeieijabDoor
