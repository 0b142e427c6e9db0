/- The tables of words, as the program's text lays them; a call that leaves all that was: its end. -/
import Derived.Test.YthaamalgeieijabDoorRb
import Derived.LaidMore
import Derived.OpenShut
import Derived.Test.YthaamalgeieijabDoorFa
import Derived.Stop.Joined
import Derived.Test.YthaamalgeieijabDoorRows
set_option linter.unusedVariables false
set_option linter.unusedSimpArgs false
set_option maxRecDepth 100000
namespace Go.Proofs.YthaamalgeieijabDoor
open Go Go.RowKit Go.ChangeShapes

theorem words_row {H : Type} {enc : TypeId × Value → H} {P : Program} {W : World} {name : String} {g : Nat} {t e : TypeId} {n fuel base : Nat} {sp : Nat → Bool} {held : Bool} {cs : Array Value} {words : List ByteArray} {p : List MemPlace}
    (hn : words.length = n) (hm : n ≤ maxLen) (hg : P.globalNamed name = some g) (ht : P.underlying t = some (.array n e)) (he : P.underlying e = some .string) (hc : P.cellsOf e = 1) (hv : W.var? P name = some cs)
    (hd : DataW.trod enc P W base sp held fuel t cs.toList = some (.agg (words.map fun s => .lit (.string s.data.toList)), p)) :
    Row (memOf W) Value.string 1 (some ⟨g, 0, none⟩) n words := by
  obtain ⟨xs, m, rfl, hx, hlen, hxl, hel⟩ := DataW.trod_array ht hd
  simp only [Prod.mk.injEq, DataW.agg.injEq] at hx
  refine ⟨by omega, hm, fun i hi => ⟨_, rfl, fun j u hu => ?_⟩⟩
  obtain ⟨rfl, rfl⟩ : j = 0 ∧ u = .string words[i] := by
    have hj := (Array.getElem?_eq_some_iff.1 hu).1
    have hj0 : j = 0 := by simpa [Value.cells] using hj
    subst hj0
    exact ⟨rfl, by simpa [Value.cells] using hu.symm⟩
  have h1 := hel i (by omega)
  rw [List.getElem?_eq_getElem (by omega)] at h1
  obtain ⟨s, h2, h3, _⟩ := DataW.trod_string he h1
  have h4 : (words.map fun s => (DataW.lit (.string s.data.toList) : DataW H))[i]? = (xs.map (·.1))[i]? := by rw [hx.1]
  rw [List.getElem?_map, List.getElem?_map, List.getElem?_eq_getElem hi, List.getElem?_eq_getElem (by omega : i < xs.length)] at h4
  simp only [Option.map_some, Option.some.injEq] at h4
  rw [h3] at h4
  simp only [DataW.lit.injEq, Lit.string.injEq] at h4
  have hs : s = words[i] := by
    cases s with
    | mk a =>
      cases hw : words[i] with
      | mk b => rw [hw] at h4; exact congrArg ByteArray.mk (Array.toList_inj.1 h4.symm)
  subst hs
  apply mcell_of
  have h5 := World.var?_cell hg hv i
  have h6 : cs[i]? = some (.string words[i]) := by
    rw [hc, Nat.mul_one] at h2
    have h8 := congrArg (fun l : List Value => l[0]?) h2
    simpa using h8
  rw [h6] at h5
  have ea : (⟨g, 0, none⟩ : Addr).add (i * 1 + 0) = ⟨g, i, none⟩ := by
    unfold Addr.add
    simp only [Nat.mul_one, Nat.add_zero, Nat.zero_add]
    split
    · next h0 => rw [h0]
    · rfl
  rw [ea]
  exact h5

theorem tab_of_laid {W : World} (h : laidMetH Tryd.prog [("dotterel/parse.relations", Rows.laid_dotterel_parse_relations), ("dotterel/parse.kept", Rows.laid_dotterel_parse_kept), ("dotterel/check.relations", Rows.laid_dotterel_check_relations)] W) : Tab (memOf W) := by
  rw [MakeChecks.laidMetH_plain _ _ _ (by kernel_rfl)] at h
  obtain ⟨ps, ⟨g0, t0, cs0, f0, p0, q0, hg0, ht0, hv0, hd0, ⟨g1, t1, cs1, f1, p1, q1, hg1, ht1, hv1, hd1, ⟨g2, t2, cs2, f2, p2, q2, hg2, ht2, hv2, hd2, _, _⟩, _⟩, _⟩, _, _⟩ := h
  obtain rfl := Option.some.inj ((show Tryd.prog.globalNamed "dotterel/parse.relations" = some 1 by kernel_rfl).symm.trans hg0)
  obtain rfl := Option.some.inj ((show Tryd.prog.globalNamed "dotterel/parse.kept" = some 0 by kernel_rfl).symm.trans hg1)
  obtain rfl := Option.some.inj ((show Tryd.prog.globalNamed "dotterel/check.relations" = some 2 by kernel_rfl).symm.trans hg2)
  obtain rfl := Option.some.inj ((show (Tryd.prog.globals[1]?).map (·.type) = some 92 by kernel_rfl).symm.trans ht0)
  obtain rfl := Option.some.inj ((show (Tryd.prog.globals[0]?).map (·.type) = some 91 by kernel_rfl).symm.trans ht1)
  obtain rfl := Option.some.inj ((show (Tryd.prog.globals[2]?).map (·.type) = some 92 by kernel_rfl).symm.trans ht2)
  have he : Tryd.prog.underlying 9 = some .string := by kernel_rfl
  have hc : Tryd.prog.cellsOf 9 = 1 := by kernel_rfl
  refine ⟨?_, ?_, ?_⟩
  · exact words_row (words := keptW) rfl (by decide) hg1 (show Tryd.prog.underlying 91 = some (.array 17 9) by kernel_rfl) he hc hv1 hd1
  · exact words_row (words := relW) rfl (by decide) hg0 (show Tryd.prog.underlying 92 = some (.array 14 9) by kernel_rfl) he hc hv0 hd0
  · exact words_row (words := relW) rfl (by decide) hg2 (show Tryd.prog.underlying 92 = some (.array 14 9) by kernel_rfl) he hc hv2 hd2

/-- What a law that is true leaves, as the row asks it. -/
theorem law_true {P : Program} {f : FuncId} {args : Array Value} {W : World} (h : Pure P f args (memOf W) (fun _ => none) (.bool true)) :
    Calls P f args W fun e W' => e = .returned (.bool true) ∧ Below W.heap.size W W' :=
  (h W (fun k o hk => hk) (fun k o hk => by cases hk) (fun k o hk => by cases hk)).mono fun e W' hq => by
    obtain ⟨v, M', L', rfl, ha, rfl, _, _⟩ := hq
    exact ⟨rfl, ⟨ha.os, ha.tape, ha.output, ha.size, fun k hk => ha.frame k hk rfl⟩⟩
end Go.Proofs.YthaamalgeieijabDoor
