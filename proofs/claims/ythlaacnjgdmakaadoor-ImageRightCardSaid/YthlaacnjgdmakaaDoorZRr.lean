/- Proves: nacellelaw19.ImageRight answers true for every staging, and what came in reads as it did. Conditions: those of the given row (the listed package variables hold what the text lays; nothing more). -/
import Derived.Test.YthlaacnjgdmakaaDoorK8
/- ImageRight: the row's word, the card. -/
namespace Go.Proofs.YthlaacnjgdmakaaDoor.imageRight
open Go.W Go.ChangeShapes Go.WideShapes Go.ChangeAt Go.RowKit

set_option maxRecDepth 100000 in
theorem contract (H : Type) (enc : TypeId × Value → H) (W : World) (base : Nat) (args : Array Value) (ds gs : List (DataW H)) (before : List MemPlace)
    (hval : ∀ (j : Nat) t v, Tryd.f6.params[j]? = some t → args[j]? = some v → Value.okWide Tryd.prog W .any base t v)
    (hW : DataW.Whole enc Tryd.prog Tryd.f6.params.toList Rows.imageRightSpec.vars false W args.toList ds gs before) (hL : laidMetH Tryd.prog shaLaid W) :
    Calls Tryd.prog 6 args W fun e W' => ∃ v, e = .returned v ∧ Rows.imageRightSpec.post enc Tryd.prog Tryd.f6 false true false false W args v W' := by
  have hW' := hW
  obtain ⟨p, q, hA0, hV, rfl, _, _⟩ := hW'
  have hA : DataW.TrodAll enc Tryd.prog W 0 (fun _ => true) true Tryd.f6.params.toList args.toList ds p := hA0
  rw [Tryd.params6] at hA hval
  obtain ⟨v0, vs0, d0, ds0, p0, q0, hargs, rfl, rfl, ⟨fuel, h0⟩, r0⟩ := trodAll_cons hA
  obtain ⟨rfl, rfl, rfl⟩ := trodAll_nil r0
  obtain rfl : args = #[v0] := by cases args; simp_all
  obtain ⟨rfl, rfl⟩ := trodVars_none hV
  obtain ⟨cs, rfl, _⟩ := okWide_struct Tryd.underlying41 (hval 0 41 v0 rfl rfl)
  obtain ⟨hl, hq⟩ := fits (tt := tree.look) (Tr.look_ok treeOk) 5 fuel _ _ _ h0
  have hl : cs.toList.length = 36 := hl
  have h1 : Fits tree.look W 4 39 ((cs.toList.drop 0).take 35) := hq (0, 39) (by simp)
  have h2 : Fits tree.look W 4 25 ((cs.toList.drop 35).take 1) := hq (35, 25) (by simp)
  obtain ⟨m, hms, hm, _⟩ := man_of (d := 1) h1
  obtain ⟨a, n, cap, bs, hb, hn, hc, _, hv⟩ := bytes_of (d := 2) h2
  obtain ⟨f1, f2, f3⟩ := laid_facts hL
  have hsz : cs.size = 36 := by simpa using hl
  have hcs : cs = (stgV m (.slice a n cap)).toArray := by
    apply Array.toList_inj.1
    show cs.toList = stgV m (.slice a n cap)
    unfold stgV
    rw [← hm, ← hb, List.drop_zero, List.take_of_length_le (l := cs.toList.drop 35) (by simp [hsz]), List.take_append_drop]
  subst hcs
  exact calls_true (args := [.agg (stgV m (.slice a n cap)).toArray]) kids full (fun t ht => by rw [Tryd.params6] at ht; simp at ht; subst ht; rw [tsize]; decide) rfl Tryd.underlying4 hW rfl rfl rfl rfl
    (right_spec m hms a n cap bs hn hc) (Rd.cons (rd_blk f1) (Rd.cons (rd_blk f2) (Rd.cons (rd_blk f3) (Rd.cons (rd_view hv) Rd.nil))))

/-- A world for the witness. -/
theorem laid_met (os : Os) : laidMetH Tryd.prog Rows.imageRightRow.laid ((laidWorld os).forCall (fun _ _ => 0) ⟨#[], #[.agg stg0.toArray], []⟩).memory :=
  laidMetH_of_parts (laidMet_of_run' 8 (by kernel_rfl) (by kernel_rfl)) (by kernel_rfl)
theorem reads (os : Os) {H : Type} (enc : TypeId × Value → H) : ∃ d places, DataW.whole enc Tryd.prog ((laidWorld os).forCall (fun _ _ => 0) ⟨#[], #[.agg stg0.toArray], []⟩).memory Tryd.f6.params.toList Rows.imageRightSpec.vars false #[Value.agg stg0.toArray].toList 8 = some ([d], [], places) :=
  ⟨.agg [.agg [.lit (.int .i64 0), .lit (.int .u32 0), .lit (.int .i64 0), .agg (List.replicate 32 (.lit (.int .u8 0)))], .nil], [], by kernel_rfl⟩

set_option maxRecDepth 100000 in
theorem lifted (os : Os) (started : os.Started) (H : Type) (enc : TypeId × Value → H) (F : Stop.Interp) :
    ReturnsInHanded {} Tryd.checked os 6 .any ((OpenSpec.ofChange Rows.imageRightSpec).preRow enc Tryd.prog Tryd.f6 Rows.imageRightRow.domain false Rows.imageRightRow.laid) (((OpenSpec.ofChange Rows.imageRightSpec).at F).post enc Tryd.prog Tryd.f6 false true false false) := by
  obtain ⟨d, places, hx⟩ := reads os enc
  refine returnsInHanded_of_row (C := Tryd.checked) (s := OpenSpec.ofChange Rows.imageRightSpec) own started (by kernel_rfl) Tryd.func6
    (witness_row_at (enc := enc) (C := Tryd.checked) false (laidWorld os) #[.agg stg0.toArray] rfl (by kernel_rfl) (by kernel_rfl) (by kernel_rfl)
      (OpenSpec.preRow_of_cond 8 hx (by kernel_rfl) (fun k hk => by cases hk) (by kernel_rfl) (laid_met os))) ?_
  intro W base args ds gs before hval hW _ _ _ hL _ _
  exact contract H enc W base args ds gs before hval hW hL

theorem said : Rows.ImageRightSaid :=
  OpenClaim.holds_of_cond 6 Tryd.f6 rfl rfl rfl rfl rfl rfl rfl ⟨rfl, rfl, rfl, rfl, rfl⟩ rfl rfl rfl rfl rfl (by kernel_rfl) Tryd.func6 (by kernel_rfl)
    (of_decide_eq_true (by kernel_rfl)) (by unfold Func.isWrapper; first | (rw [if_pos (by decide +kernel)]; kernel_rfl) | (rw [if_neg (by decide +kernel)]; exact ⟨rfl, rfl⟩))
    (fun os started H enc _ F => by rw [OpenClaim.pre_eq_preRow]; exact lifted os started H enc F)

theorem plain (f : FuncId) (fn : Func) (hf : Tryd.pinned.checked.prog.funcNamed "nacelle/nacellelaw19.ImageRight" = some f) (hfn : Tryd.pinned.checked.prog.funcs[f]? = some fn) :
    true = Tryd.pinned.checked.prog.looks [] ∧ ∀ (j : Nat) t, fn.params[j]? = some t → Tryd.pinned.checked.prog.wantsStandIn t = false := by
  obtain rfl : f = 6 := Option.some.inj ((show Tryd.prog.funcNamed "nacelle/nacellelaw19.ImageRight" = some 6 by kernel_rfl).symm.trans hf) |>.symm
  obtain rfl : fn = Tryd.f6 := (Option.some.inj (Tryd.func6.symm.trans hfn)).symm
  refine ⟨by kernel_rfl, fun j t ht => ?_⟩
  rw [Tryd.params6] at ht
  obtain rfl : t = 41 := by simpa using Array.mem_of_getElem? ht
  exact (show Tryd.prog.wantsStandIn 41 = false by kernel_rfl)

theorem card : Rows.ImageRightCardSaid :=
  Claim7.holds_tied_plain_at .later [] _ _ _ _ said (fun _ h => by cases h) (by kernel_rfl) (fun _ h => by cases h) imageRight_row_tie rfl ⟨rfl, rfl⟩ (by kernel_rfl) rfl plain (by kernel_rfl)
end Go.Proofs.YthlaacnjgdmakaaDoor.imageRight
