/- Proves: nacellelaw19.ImagePieces answers true for every program, part, version and list of cuts, and what came in reads as it did. Conditions: those of the given row (the listed package variables hold what the text lays; nothing more). -/
import Derived.Test.YthlaacnjgdmakaaDoorK8
/- ImagePieces: the row's word, the card. -/
namespace Go.Proofs.YthlaacnjgdmakaaDoor.imagePieces
open Go.W Go.ChangeShapes Go.WideShapes Go.ChangeAt Go.RowKit

theorem rows_of {α : Type} {enc : α → List Value} {s : Nat} : ∀ (n : Nat) (xs : List Value), xs.length = n * s → (∀ k, k < n → ∃ x, (xs.drop (k * s)).take s = enc x) → ∃ l : List α, l.length = n ∧ xs = l.flatMap enc
  | 0, xs, h, _ => ⟨[], rfl, by simpa using h⟩
  | n + 1, xs, h, hx => by
    obtain ⟨x, h0⟩ := hx 0 (Nat.succ_pos n)
    obtain ⟨l, h1, h2⟩ := rows_of (enc := enc) (s := s) n (xs.drop s) (by rw [List.length_drop, h, Nat.add_mul]; omega) (fun k hk => by
      obtain ⟨y, hy⟩ := hx (k + 1) (by omega)
      refine ⟨y, ?_⟩
      rw [List.drop_drop, ← hy]; congr 2; rw [Nat.add_mul]; omega)
    refine ⟨x :: l, by simp [h1], ?_⟩
    rw [List.flatMap_cons, ← h2, ← h0, Nat.zero_mul, List.drop_zero, List.take_append_drop]
theorem ins_of {W : World} {d : Nat} {cs : List Value} (h : Fits tree.look W (d + 2) 63 cs) : ∃ i : Ins, cs = insV i := by
  obtain ⟨hl, hq⟩ := h
  have hl : cs.length = 4 := hl
  obtain ⟨bs, hb, hbl⟩ := cells_bytes (l := cs) (fun k hk => by
    have h0 : Fits tree.look W (d + 1) 5 ((cs.drop k).take 1) := hq (k, 5) (by
      have : k = 0 ∨ k = 1 ∨ k = 2 ∨ k = 3 := by omega
      rcases this with rfl | rfl | rfl | rfl <;> simp)
    exact h0)
  match bs, hbl.trans hl with
  | [x, y, z, w], _ => exact ⟨⟨x, y, z, w⟩, hb⟩
theorem inss_of {W : World} {d : Nat} {cs : List Value} (h : Fits tree.look W (d + 3) 52 cs) : ∃ a n cap, ∃ l : List Ins, cs = [.slice a n cap] ∧ n = l.length ∧ n ≤ cap ∧ cap ≤ maxLen ∧ viewR (fun b l => blkAt W b l) 4 a n cap (inssV l) := by
  obtain ⟨a, n, cap, rfl, hn, hc, h⟩ := h
  obtain ⟨xs, hv, hx⟩ : ∃ xs, viewR (fun b l => blkAt W b l) 4 a n cap xs ∧ ∀ k, k < n → Fits tree.look W (d + 2) 63 ((xs.drop (k * 4)).take 4) := h (by decide)
  obtain ⟨l, hl, rfl⟩ := rows_of n xs hv.len.1 (fun k hk => ins_of (hx k hk))
  exact ⟨a, n, cap, l, rfl, hl.symm, hn, hc, hv⟩
theorem ints_of {W : World} {d : Nat} {cs : List Value} (h : Fits tree.look W (d + 2) 57 cs) : ∃ a n cap, ∃ l : List Int, cs = [.slice a n cap] ∧ n = l.length ∧ n ≤ cap ∧ cap ≤ maxLen ∧ viewR (fun b l => blkAt W b l) 1 a n cap (intV l) := by
  obtain ⟨a, n, cap, rfl, hn, hc, h⟩ := h
  obtain ⟨xs, hv, hx⟩ : ∃ xs, viewR (fun b l => blkAt W b l) 1 a n cap xs ∧ ∀ k, k < n → Fits tree.look W (d + 1) 3 ((xs.drop (k * 1)).take 1) := h Nat.zero_lt_one
  obtain ⟨l, hl, hxs⟩ := rows_of (enc := fun x : Int => [Value.int .i64 x]) n xs hv.len.1 (fun k hk => by
    obtain ⟨m, hm, _⟩ := hx k hk
    exact ⟨m, hm⟩)
  have e : xs = intV l := by
    rw [hxs]; unfold intV
    clear hl hxs
    induction l with
    | nil => rfl
    | cons x l ih => rw [List.flatMap_cons, ih]; rfl
  subst e
  exact ⟨a, n, cap, l, rfl, hl.symm, hn, hc, hv⟩

set_option maxRecDepth 100000 in
theorem contract (H : Type) (enc : TypeId × Value → H) (W : World) (base : Nat) (args : Array Value) (ds gs : List (DataW H)) (before : List MemPlace)
    (hval : ∀ (j : Nat) t v, Tryd.f7.params[j]? = some t → args[j]? = some v → Value.okWide Tryd.prog W .any base t v)
    (hW : DataW.Whole enc Tryd.prog Tryd.f7.params.toList Rows.imagePiecesSpec.vars false W args.toList ds gs before) (hL : laidMetH Tryd.prog shaLaid W) :
    Calls Tryd.prog 7 args W fun e W' => ∃ v, e = .returned v ∧ Rows.imagePiecesSpec.post enc Tryd.prog Tryd.f7 false true false false W args v W' := by
  have hW' := hW
  obtain ⟨p, q, hA0, hV, rfl, _, _⟩ := hW'
  have hA : DataW.TrodAll enc Tryd.prog W 0 (fun _ => true) true Tryd.f7.params.toList args.toList ds p := hA0
  rw [Tryd.params7] at hA hval
  obtain ⟨v0, vs0, d0, ds0, p0, q0, hargs, rfl, rfl, ⟨fuel, h0⟩, r0⟩ := trodAll_cons hA
  obtain ⟨rfl, rfl, rfl⟩ := trodAll_nil r0
  obtain rfl : args = #[v0] := by cases args; simp_all
  obtain ⟨rfl, rfl⟩ := trodVars_none hV
  obtain ⟨cs, rfl, _⟩ := okWide_struct Tryd.underlying72 (hval 0 72 v0 rfl rfl)
  obtain ⟨hl, hq⟩ := fits (tt := tree.look) (Tr.look_ok treeOk) 5 fuel _ _ _ h0
  have hl : cs.toList.length = 4 := hl
  have h1 : Fits tree.look W 4 52 ((cs.toList.drop 0).take 1) := hq (0, 52) (by simp)
  have h2 : Fits tree.look W 4 3 ((cs.toList.drop 1).take 1) := hq (1, 3) (by simp)
  have h3 : Fits tree.look W 4 36 ((cs.toList.drop 2).take 1) := hq (2, 36) (by simp)
  have h4 : Fits tree.look W 4 57 ((cs.toList.drop 3).take 1) := hq (3, 57) (by simp)
  obtain ⟨a, n, cap, l, hb, hn, hc, hm, hv⟩ := inss_of (d := 1) h1
  obtain ⟨part, hp, _⟩ := h2
  obtain ⟨ver, hver, wv⟩ := h3
  obtain ⟨a2, n2, cap2, cuts, hb2, hn2, hc2, hm2, hv2⟩ := ints_of (d := 2) h4
  have hvb : 0 ≤ ver ∧ ver ≤ 4294967295 := by simpa [Lit.wf, IntKind.min, IntKind.max, IntKind.signed, IntKind.bits] using wv
  obtain ⟨f1, f2, f3⟩ := laid_facts hL
  have hcs : cs = #[.slice a n cap, .int .i64 part, wV (UInt32.ofNat ver.toNat), .slice a2 n2 cap2] := by
    apply Array.toList_inj.1
    have hw : wV (UInt32.ofNat ver.toNat) = .int .u32 ver := by unfold wV; congr 1; simp only [UInt32.toNat_ofNat']; omega
    rw [hw]
    match h : cs.toList, hl with
    | [c0, c1, c2, c3], _ =>
      rw [h] at hb hp hver hb2
      simp at hb hp hver hb2
      rw [hb, hp, hver, hb2]
  subst hcs
  exact calls_true (args := [.agg #[.slice a n cap, .int .i64 part, wV (UInt32.ofNat ver.toNat), .slice a2 n2 cap2]]) kids full (fun t ht => by rw [Tryd.params7] at ht; simp at ht; subst ht; rw [tsize]; decide) rfl Tryd.underlying4 hW rfl rfl rfl rfl
    (pieces_spec a n cap l hn (by unfold maxLen at hm; omega) part _ a2 n2 cap2 cuts hn2) (Rd.cons (rd_blk f1) (Rd.cons (rd_blk f2) (Rd.cons (rd_blk f3) (Rd.cons (rd_view hv) (Rd.cons (rd_view hv2) Rd.nil)))))

/-- A world for the witness. -/
theorem laid_met (os : Os) : laidMetH Tryd.prog Rows.imagePiecesRow.laid ((laidWorld os).forCall (fun _ _ => 0) ⟨#[], #[.agg #[Value.slice none 0 0, .int .i64 0, .int .u32 0, .slice none 0 0]], []⟩).memory :=
  laidMetH_of_parts (laidMet_of_run' 8 (by kernel_rfl) (by kernel_rfl)) (by kernel_rfl)
theorem reads (os : Os) {H : Type} (enc : TypeId × Value → H) : ∃ d places, DataW.whole enc Tryd.prog ((laidWorld os).forCall (fun _ _ => 0) ⟨#[], #[.agg #[Value.slice none 0 0, .int .i64 0, .int .u32 0, .slice none 0 0]], []⟩).memory Tryd.f7.params.toList Rows.imagePiecesSpec.vars false #[Value.agg #[Value.slice none 0 0, .int .i64 0, .int .u32 0, .slice none 0 0]].toList 8 = some ([d], [], places) :=
  ⟨.agg [.nil, .lit (.int .i64 0), .lit (.int .u32 0), .nil], [], by kernel_rfl⟩

set_option maxRecDepth 100000 in
theorem lifted (os : Os) (started : os.Started) (H : Type) (enc : TypeId × Value → H) (F : Stop.Interp) :
    ReturnsInHanded {} Tryd.checked os 7 .any ((OpenSpec.ofChange Rows.imagePiecesSpec).preRow enc Tryd.prog Tryd.f7 Rows.imagePiecesRow.domain false Rows.imagePiecesRow.laid) (((OpenSpec.ofChange Rows.imagePiecesSpec).at F).post enc Tryd.prog Tryd.f7 false true false false) := by
  obtain ⟨d, places, hx⟩ := reads os enc
  refine returnsInHanded_of_row (C := Tryd.checked) (s := OpenSpec.ofChange Rows.imagePiecesSpec) own started (by kernel_rfl) Tryd.func7
    (witness_row_at (enc := enc) (C := Tryd.checked) false (laidWorld os) #[.agg #[Value.slice none 0 0, .int .i64 0, .int .u32 0, .slice none 0 0]] rfl (by kernel_rfl) (by kernel_rfl) (by kernel_rfl)
      (OpenSpec.preRow_of_cond 8 hx (by kernel_rfl) (fun k hk => by cases hk) (by kernel_rfl) (laid_met os))) ?_
  intro W base args ds gs before hval hW _ _ _ hL _ _
  exact contract H enc W base args ds gs before hval hW hL

theorem said : Rows.ImagePiecesSaid :=
  OpenClaim.holds_of_cond 7 Tryd.f7 rfl rfl rfl rfl rfl rfl rfl ⟨rfl, rfl, rfl, rfl, rfl⟩ rfl rfl rfl rfl rfl (by kernel_rfl) Tryd.func7 (by kernel_rfl)
    (of_decide_eq_true (by kernel_rfl)) (by unfold Func.isWrapper; first | (rw [if_pos (by decide +kernel)]; kernel_rfl) | (rw [if_neg (by decide +kernel)]; exact ⟨rfl, rfl⟩))
    (fun os started H enc _ F => by rw [OpenClaim.pre_eq_preRow]; exact lifted os started H enc F)

theorem plain (f : FuncId) (fn : Func) (hf : Tryd.pinned.checked.prog.funcNamed "nacelle/nacellelaw19.ImagePieces" = some f) (hfn : Tryd.pinned.checked.prog.funcs[f]? = some fn) :
    true = Tryd.pinned.checked.prog.looks [] ∧ ∀ (j : Nat) t, fn.params[j]? = some t → Tryd.pinned.checked.prog.wantsStandIn t = false := by
  obtain rfl : f = 7 := Option.some.inj ((show Tryd.prog.funcNamed "nacelle/nacellelaw19.ImagePieces" = some 7 by kernel_rfl).symm.trans hf) |>.symm
  obtain rfl : fn = Tryd.f7 := (Option.some.inj (Tryd.func7.symm.trans hfn)).symm
  refine ⟨by kernel_rfl, fun j t ht => ?_⟩
  rw [Tryd.params7] at ht
  obtain rfl : t = 72 := by simpa using Array.mem_of_getElem? ht
  exact (show Tryd.prog.wantsStandIn 72 = false by kernel_rfl)

theorem card : Rows.ImagePiecesCardSaid :=
  Claim7.holds_tied_plain_at .later [] _ _ _ _ said (fun _ h => by cases h) (by kernel_rfl) (fun _ h => by cases h) imagePieces_row_tie rfl ⟨rfl, rfl⟩ (by kernel_rfl) rfl plain (by kernel_rfl)
end Go.Proofs.YthlaacnjgdmakaaDoor.imagePieces
