/- an image whose version is not above that which counts is refused ahead of all else, and changes nothing -/
import Derived.Test.YtdalmiacjicgpaaGreatDoorK12
/- LoaderRises: the row's word, the card. -/
namespace Go.Proofs.YtdalmiacjicgpaaGreatDoor.loaderRises
open Go.W Go.ChangeShapes Go.WideShapes Go.ChangeAt Go.RowKit

set_option maxRecDepth 100000 in
theorem contract (H : Type) (enc : TypeId × Value → H) (W : World) (base : Nat) (args : Array Value) (ds gs : List (DataW H)) (before : List MemPlace)
    (hval : ∀ (j : Nat) t v, Tryz.f3.params[j]? = some t → args[j]? = some v → Value.okWide Tryz.prog W .any base t v)
    (hW : DataW.Whole enc Tryz.prog Tryz.f3.params.toList Rows.loaderRisesSpec.vars false W args.toList ds gs before) (hL : laidMetH Tryz.prog loadLaid W) :
    Calls Tryz.prog 3 args W fun e W' => ∃ v, e = .returned v ∧ Rows.loaderRisesSpec.post enc Tryz.prog Tryz.f3 false true false false W args v W' := by
  have hW' := hW
  obtain ⟨p, q, hA0, hV, rfl, _, _⟩ := hW'
  have hA : DataW.TrodAll enc Tryz.prog W 0 (fun _ => true) true Tryz.f3.params.toList args.toList ds p := hA0
  rw [Tryz.params3] at hA hval
  obtain ⟨v0, vs0, d0, ds0, p0, q0, hargs, rfl, rfl, ⟨fuel, h0⟩, r0⟩ := trodAll_cons hA
  obtain ⟨v1, vs1, d1, ds1, p1, q1, rfl, rfl, rfl, ⟨fuel1, h1⟩, r1⟩ := trodAll_cons r0
  obtain ⟨v2, vs2, d2, ds2, p2, q2, rfl, rfl, rfl, ⟨fuel2, h2⟩, r2⟩ := trodAll_cons r1
  obtain ⟨rfl, rfl, rfl⟩ := trodAll_nil r2
  obtain rfl : args = #[v0, v1, v2] := by cases args; simp_all
  obtain ⟨rfl, rfl⟩ := trodVars_none hV
  obtain ⟨one, hone⟩ := word_of (d := 1) (fits (tt := tree.look) (Tr.look_ok treeOk) 2 fuel _ _ _ h0)
  obtain ⟨two, htwo⟩ := word_of (d := 1) (fits (tt := tree.look) (Tr.look_ok treeOk) 2 fuel1 _ _ _ h1)
  obtain rfl : v0 = wV one := cell_int Tryz.underlying22 (hval 0 22 v0 rfl rfl) hone
  obtain rfl : v1 = wV two := cell_int Tryz.underlying22 (hval 1 22 v1 rfl rfl) htwo
  obtain ⟨a, n, cap, bs, hb, hn, hc, _, hv⟩ := bytes_of (d := 1) (fits (tt := tree.look) (Tr.look_ok treeOk) 3 fuel2 _ _ _ h2)
  obtain rfl : v2 = .slice a n cap := cells_one Tryz.underlying23 (hval 2 23 v2 rfl rfl) hb
  obtain ⟨f1, f2, f3, f4⟩ := laid_facts hL
  exact calls_true (args := [wV one, wV two, .slice a n cap]) kids full (fun t ht => by rw [Tryz.params3] at ht; simp at ht; rcases ht with rfl | rfl <;> (rw [tsize]; decide)) rfl Tryz.underlying4 hW rfl rfl rfl rfl
    (rises_spec one two a n cap bs hn hc) (Rd.cons (rd_blk f4) (Rd.cons (rd_blk f1) (Rd.cons (rd_blk f2) (Rd.cons (rd_blk f3) (Rd.cons (rd_view hv) Rd.nil)))))

/-- A world for the witness. -/
theorem laid_met (os : Os) : laidMetH Tryz.prog Rows.loaderRisesRow.laid ((laidWorld os).forCall (fun _ _ => 0) ⟨#[], #[.int .u32 0, .int .u32 0, .slice none 0 0], []⟩).memory :=
  laidMetH_of_parts (laidMet_of_run' 8 (by kernel_rfl) (by kernel_rfl)) (by kernel_rfl)
theorem reads (os : Os) {H : Type} (enc : TypeId × Value → H) : ∃ d places, DataW.whole enc Tryz.prog ((laidWorld os).forCall (fun _ _ => 0) ⟨#[], #[.int .u32 0, .int .u32 0, .slice none 0 0], []⟩).memory Tryz.f3.params.toList Rows.loaderRisesSpec.vars false #[Value.int .u32 0, Value.int .u32 0, Value.slice none 0 0].toList 8 = some ([d, .lit (.int .u32 0), .nil], [], places) :=
  ⟨.lit (.int .u32 0), [], by kernel_rfl⟩

set_option maxRecDepth 100000 in
theorem lifted (os : Os) (started : os.Started) (H : Type) (enc : TypeId × Value → H) (F : Stop.Interp) :
    ReturnsInHanded {} Tryz.checked os 3 .any ((OpenSpec.ofChange Rows.loaderRisesSpec).preRow enc Tryz.prog Tryz.f3 Rows.loaderRisesRow.domain false Rows.loaderRisesRow.laid) (((OpenSpec.ofChange Rows.loaderRisesSpec).at F).post enc Tryz.prog Tryz.f3 false true false false) := by
  obtain ⟨d, places, hx⟩ := reads os enc
  refine returnsInHanded_of_row (C := Tryz.checked) (s := OpenSpec.ofChange Rows.loaderRisesSpec) own started (by kernel_rfl) Tryz.func3
    (witness_row_at (enc := enc) (C := Tryz.checked) false (laidWorld os) #[.int .u32 0, .int .u32 0, .slice none 0 0] rfl (by kernel_rfl) (by kernel_rfl) (by kernel_rfl)
      (OpenSpec.preRow_of_cond 8 hx (by kernel_rfl) (fun k hk => by cases hk) (by kernel_rfl) (laid_met os))) ?_
  intro W base args ds gs before hval hW _ _ _ hL _ _
  exact contract H enc W base args ds gs before hval hW hL

theorem said : Rows.LoaderRisesSaid :=
  OpenClaim.holds_of_cond 3 Tryz.f3 rfl rfl rfl rfl rfl rfl rfl ⟨rfl, rfl, rfl, rfl, rfl⟩ rfl rfl rfl rfl rfl (by kernel_rfl) Tryz.func3 (by kernel_rfl)
    (of_decide_eq_true (by kernel_rfl)) (by unfold Func.isWrapper; first | (rw [if_pos (by decide +kernel)]; kernel_rfl) | (rw [if_neg (by decide +kernel)]; exact ⟨rfl, rfl⟩))
    (fun os started H enc _ F => by rw [OpenClaim.pre_eq_preRow]; exact lifted os started H enc F)

theorem plain (f : FuncId) (fn : Func) (hf : Tryz.pinned.checked.prog.funcNamed "nacelle/nacellelaw21.LoaderRises" = some f) (hfn : Tryz.pinned.checked.prog.funcs[f]? = some fn) :
    true = Tryz.pinned.checked.prog.looks [] ∧ ∀ (j : Nat) t, fn.params[j]? = some t → Tryz.pinned.checked.prog.wantsStandIn t = false := by
  obtain rfl : f = 3 := Option.some.inj ((show Tryz.prog.funcNamed "nacelle/nacellelaw21.LoaderRises" = some 3 by kernel_rfl).symm.trans hf) |>.symm
  obtain rfl : fn = Tryz.f3 := (Option.some.inj (Tryz.func3.symm.trans hfn)).symm
  refine ⟨by kernel_rfl, fun j t ht => ?_⟩
  rw [Tryz.params3] at ht
  have : t = 22 ∨ t = 23 := by simpa using Array.mem_of_getElem? ht
  rcases this with rfl | rfl
  · exact (show Tryz.prog.wantsStandIn 22 = false by kernel_rfl)
  · exact (show Tryz.prog.wantsStandIn 23 = false by kernel_rfl)

theorem card : Rows.LoaderRisesCardSaid :=
  Claim7.holds_tied_plain_at .later [] _ _ _ _ said (fun _ h => by cases h) (by kernel_rfl) (fun _ h => by cases h) loaderRises_row_tie rfl ⟨rfl, rfl⟩ (by kernel_rfl) rfl plain (by kernel_rfl)
end Go.Proofs.YtdalmiacjicgpaaGreatDoor.loaderRises
