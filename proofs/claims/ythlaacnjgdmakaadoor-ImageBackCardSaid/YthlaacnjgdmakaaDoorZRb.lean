/- Proves: nacellelaw19.ImageBack answers true for every manifest and every bytes, and what came in reads as it did. Conditions: those of the given row (the listed package variables hold what the text lays; no slice takes more room than the row allows). -/
import Derived.Test.YthlaacnjgdmakaaDoorK8
/- ImageBack: the row's word, the card. -/
namespace Go.Proofs.YthlaacnjgdmakaaDoor.imageBack
open Go.W Go.ChangeShapes Go.WideShapes Go.ChangeAt Go.RowKit

set_option maxRecDepth 100000 in
theorem contract (H : Type) (enc : TypeId × Value → H) (W : World) (base : Nat) (args : Array Value) (ds gs : List (DataW H)) (before : List MemPlace)
    (hval : ∀ (j : Nat) t v, Tryd.f8.params[j]? = some t → args[j]? = some v → Value.okWide Tryd.prog W .any base t v)
    (hW : DataW.Whole enc Tryd.prog Tryd.f8.params.toList Rows.imageBackSpec.vars false W args.toList ds gs before) (hL : laidMetH Tryd.prog shaLaid W)
    (hwt : (DataW.weightsEach Tryd.prog (Tryd.f8.params.toList ++ []) (ds ++ gs)).all (· ≤ reachBytes) = true) :
    Calls Tryd.prog 8 args W fun e W' => ∃ v, e = .returned v ∧ Rows.imageBackSpec.post enc Tryd.prog Tryd.f8 false true false false W args v W' := by
  have hW' := hW
  obtain ⟨p, q, hA0, hV, rfl, _, _⟩ := hW'
  have hA : DataW.TrodAll enc Tryd.prog W 0 (fun _ => true) true Tryd.f8.params.toList args.toList ds p := hA0
  rw [Tryd.params8] at hA hval hwt
  obtain ⟨v0, vs0, d0, ds0, p0, q0, hargs, rfl, rfl, ⟨fuel, h0⟩, r0⟩ := trodAll_cons hA
  obtain ⟨v1, vs1, d1, ds1, p1, q1, rfl, rfl, rfl, ⟨fuel1, h1⟩, r1⟩ := trodAll_cons r0
  obtain ⟨rfl, rfl, rfl⟩ := trodAll_nil r1
  obtain rfl : args = #[v0, v1] := by cases args; simp_all
  obtain ⟨rfl, rfl⟩ := trodVars_none hV
  obtain ⟨cs, rfl, _⟩ := okWide_struct Tryd.underlying39 (hval 0 39 v0 rfl rfl)
  obtain ⟨m, hms, hm, _⟩ := man_of (d := 1) (fits (tt := tree.look) (Tr.look_ok treeOk) 4 fuel _ _ _ h0)
  obtain ⟨a, n, cap, bs, hb, hn, hc, _, hv⟩ := bytes_of (d := 1) (fits (tt := tree.look) (Tr.look_ok treeOk) 3 fuel1 _ _ _ h1)
  obtain rfl : v1 = .slice a n cap := cells_one Tryd.underlying25 (hval 1 25 v1 rfl rfl) hb
  have hwt : (d0.weights Tryd.prog 39 ++ (d1.weights Tryd.prog 25 ++ [])).all (· ≤ reachBytes) = true := hwt
  rw [List.all_append, List.all_append, Bool.and_eq_true, Bool.and_eq_true] at hwt
  have hcap := weigh_slice Tryd.underlying25 h1 hwt.2.1
  rw [show Tryd.prog.bytesOf 5 = 1 by kernel_rfl] at hcap
  obtain ⟨f1, f2, f3⟩ := laid_facts hL
  have hcs : cs = m.v.toArray := by
    apply Array.toList_inj.1
    exact hm
  subst hcs
  exact calls_true (args := [.agg m.v.toArray, .slice a n cap]) kids full (fun t ht => by rw [Tryd.params8] at ht; simp at ht; rcases ht with rfl | rfl <;> (rw [tsize]; decide)) rfl Tryd.underlying4 hW rfl rfl rfl rfl
    (back_spec m hms a n cap bs hn (by omega)) (Rd.cons (rd_blk f1) (Rd.cons (rd_blk f2) (Rd.cons (rd_blk f3) (Rd.cons (rd_view hv) Rd.nil))))

/-- A world for the witness. -/
theorem laid_met (os : Os) : laidMetH Tryd.prog Rows.imageBackRow.laid ((laidWorld os).forCall (fun _ _ => 0) ⟨#[], #[.agg man0.v.toArray, .slice none 0 0], []⟩).memory :=
  laidMetH_of_parts (laidMet_of_run' 8 (by kernel_rfl) (by kernel_rfl)) (by kernel_rfl)
theorem reads (os : Os) {H : Type} (enc : TypeId × Value → H) : ∃ d places, DataW.whole enc Tryd.prog ((laidWorld os).forCall (fun _ _ => 0) ⟨#[], #[.agg man0.v.toArray, .slice none 0 0], []⟩).memory Tryd.f8.params.toList Rows.imageBackSpec.vars false #[Value.agg man0.v.toArray, Value.slice none 0 0].toList 8 = some ([d, .nil], [], places) :=
  ⟨.agg [.lit (.int .i64 0), .lit (.int .u32 0), .lit (.int .i64 0), .agg (List.replicate 32 (.lit (.int .u8 0)))], [], by kernel_rfl⟩

set_option maxRecDepth 100000 in
theorem lifted (os : Os) (started : os.Started) (H : Type) (enc : TypeId × Value → H) (F : Stop.Interp) :
    ReturnsInHanded {} Tryd.checked os 8 .any ((OpenSpec.ofChange Rows.imageBackSpec).preRow enc Tryd.prog Tryd.f8 Rows.imageBackRow.domain false Rows.imageBackRow.laid) (((OpenSpec.ofChange Rows.imageBackSpec).at F).post enc Tryd.prog Tryd.f8 false true false false) := by
  obtain ⟨d, places, hx⟩ := reads os enc
  refine returnsInHanded_of_row (C := Tryd.checked) (s := OpenSpec.ofChange Rows.imageBackSpec) own started (by kernel_rfl) Tryd.func8
    (witness_row_at (enc := enc) (C := Tryd.checked) false (laidWorld os) #[.agg man0.v.toArray, .slice none 0 0] rfl (by kernel_rfl) (by kernel_rfl) (by kernel_rfl)
      (OpenSpec.preRow_of_cond 8 hx (by kernel_rfl) (fun k hk => by cases hk) (by kernel_rfl) (laid_met os))) ?_
  intro W base args ds gs before hval hW _ _ hwt hL _ _
  exact contract H enc W base args ds gs before hval hW hL hwt

theorem said : Rows.ImageBackSaid :=
  OpenClaim.holds_of_cond 8 Tryd.f8 rfl rfl rfl rfl rfl rfl rfl ⟨rfl, rfl, rfl, rfl, rfl⟩ rfl rfl rfl rfl rfl (by kernel_rfl) Tryd.func8 (by kernel_rfl)
    (of_decide_eq_true (by kernel_rfl)) (by unfold Func.isWrapper; first | (rw [if_pos (by decide +kernel)]; kernel_rfl) | (rw [if_neg (by decide +kernel)]; exact ⟨rfl, rfl⟩))
    (fun os started H enc _ F => by rw [OpenClaim.pre_eq_preRow]; exact lifted os started H enc F)

theorem plain (f : FuncId) (fn : Func) (hf : Tryd.pinned.checked.prog.funcNamed "nacelle/nacellelaw19.ImageBack" = some f) (hfn : Tryd.pinned.checked.prog.funcs[f]? = some fn) :
    true = Tryd.pinned.checked.prog.looks [] ∧ ∀ (j : Nat) t, fn.params[j]? = some t → Tryd.pinned.checked.prog.wantsStandIn t = false := by
  obtain rfl : f = 8 := Option.some.inj ((show Tryd.prog.funcNamed "nacelle/nacellelaw19.ImageBack" = some 8 by kernel_rfl).symm.trans hf) |>.symm
  obtain rfl : fn = Tryd.f8 := (Option.some.inj (Tryd.func8.symm.trans hfn)).symm
  refine ⟨by kernel_rfl, fun j t ht => ?_⟩
  rw [Tryd.params8] at ht
  have : t = 39 ∨ t = 25 := by simpa using Array.mem_of_getElem? ht
  rcases this with rfl | rfl
  · exact (show Tryd.prog.wantsStandIn 39 = false by kernel_rfl)
  · exact (show Tryd.prog.wantsStandIn 25 = false by kernel_rfl)

theorem card : Rows.ImageBackCardSaid :=
  Claim7.holds_tied_plain_at .later [] _ _ _ _ said (fun _ h => by cases h) (by kernel_rfl) (fun _ h => by cases h) imageBack_row_tie rfl ⟨rfl, rfl⟩ (by kernel_rfl) rfl plain (by kernel_rfl)
end Go.Proofs.YthlaacnjgdmakaaDoor.imageBack
