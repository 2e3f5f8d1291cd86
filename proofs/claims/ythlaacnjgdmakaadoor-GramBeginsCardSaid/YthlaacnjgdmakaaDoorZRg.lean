/- GramBegins holds for every grammar and every text: a text that is matched begins with a first byte of name 0, or is empty, and then that name vanishes; laid variables as the row lists them. -/
import Derived.Test.YthlaacnjgdmakaaDoorK11
/- GramBegins: the row's word, the card. -/
namespace Go.Proofs.YthlaacnjgdmakaaDoor.gramBegins
open Go.W Go.ChangeShapes Go.WideShapes Go.ChangeAt Go.RowKit

theorem rows_of {α : Type} {enc : α → List Value} {s : Nat} : ∀ (n : Nat) (xs : List Value), xs.length = n * s → (∀ k, k < n → ∃ x, (xs.drop (k * s)).take s = enc x) → ∃ l : List α, l.length = n ∧ xs = l.flatMap enc
  | 0, xs, h, _ => ⟨[], rfl, by simpa using h⟩
  | n + 1, xs, h, hx => by
    obtain ⟨x, h0⟩ := hx 0 (Nat.succ_pos n)
    obtain ⟨l, h1, h2⟩ := rows_of (enc := enc) (s := s) n (xs.drop s) (by rw [List.length_drop, h, Nat.add_mul]; omega) (fun k hk => by
      obtain ⟨y, hy⟩ := hx (k + 1) (by omega)
      refine ⟨y, ?_⟩
      rw [List.drop_drop, ← hy]; congr 2; rw [Nat.add_mul]; omega)
    refine ⟨x :: l, by simp [h1], ?_⟩
    rw [List.flatMap_cons, ← h2, ← h0, Nat.zero_mul, List.drop_zero, List.take_append_drop]
theorem two {cs : List Value} (hl : cs.length = 2) {x y : Value} (h0 : (cs.drop 0).take 1 = [x]) (h1 : (cs.drop 1).take 1 = [y]) : cs = [x, y] := by
  match cs, hl with
  | [c0, c1], _ => simp at h0 h1; rw [h0, h1]
theorem three {cs : List Value} (hl : cs.length = 3) {x y z : Value} (h0 : (cs.drop 0).take 1 = [x]) (h1 : (cs.drop 1).take 1 = [y]) (h2 : (cs.drop 2).take 1 = [z]) : cs = [x, y, z] := by
  match cs, hl with
  | [c0, c1, c2], _ => simp at h0 h1 h2; rw [h0, h1, h2]
theorem byte_of {n : Int} (h : (Lit.int .u8 n).wf = true) : ∃ b : UInt8, Value.int .u8 n = bV b := by
  have hb : 0 ≤ n ∧ n ≤ 255 := by simpa [Lit.wf, IntKind.min, IntKind.max, IntKind.signed, IntKind.bits] using h
  refine ⟨UInt8.ofNat n.toNat, ?_⟩
  unfold bV
  congr 1
  simp only [UInt8.toNat_ofNat']
  omega
theorem sg_of {W : World} {d : Nat} {cs : List Value} (h : Fits tree.look W (d + 2) 93 cs) : ∃ s : Sg, cs = s.v := by
  obtain ⟨hl, hq⟩ := h
  have hl : cs.length = 3 := hl
  have h0 : Fits tree.look W (d + 1) 3 ((cs.drop 0).take 1) := hq (0, 3) (by simp)
  have h1 : Fits tree.look W (d + 1) 5 ((cs.drop 1).take 1) := hq (1, 5) (by simp)
  have h2 : Fits tree.look W (d + 1) 5 ((cs.drop 2).take 1) := hq (2, 5) (by simp)
  obtain ⟨p, hp, _⟩ := h0
  obtain ⟨x, hx, wx⟩ := h1
  obtain ⟨y, hy, wy⟩ := h2
  obtain ⟨bx, ex⟩ := byte_of wx
  obtain ⟨by', ey⟩ := byte_of wy
  exact ⟨⟨p, bx, by'⟩, by rw [three hl hp hx hy, ex, ey]; rfl⟩
def FmIn (W : World) (f : Fm) : Prop := viewR (fun b l => blkAt W b l) 3 f.a f.body.length f.cap (sgsV f.body)
theorem fm_of {W : World} {d : Nat} {cs : List Value} (h : Fits tree.look W (d + 4) 79 cs) : ∃ f : { f : Fm // FmIn W f }, cs = f.1.v := by
  obtain ⟨hl, hq⟩ := h
  have hl : cs.length = 2 := hl
  have h0 : Fits tree.look W (d + 3) 3 ((cs.drop 0).take 1) := hq (0, 3) (by simp)
  have h1 : Fits tree.look W (d + 3) 77 ((cs.drop 1).take 1) := hq (1, 77) (by simp)
  obtain ⟨p, hp, _⟩ := h0
  obtain ⟨a, n, cap, hs, hn, hc, h⟩ := h1
  obtain ⟨xs, hv, hx⟩ : ∃ xs, viewR (fun b l => blkAt W b l) 3 a n cap xs ∧ ∀ k, k < n → Fits tree.look W (d + 2) 93 ((xs.drop (k * 3)).take 3) := h (by decide)
  obtain ⟨l, hl', rfl⟩ := rows_of (enc := Sg.v) n xs hv.len.1 (fun k hk => sg_of (hx k hk))
  subst hl'
  exact ⟨⟨⟨p, a, cap, l⟩, hv⟩, two hl hp hs⟩
theorem gr_of {W : World} {d : Nat} {cs : List Value} (h : Fits tree.look W (d + 6) 24 cs) : ∃ g : Gr, cs = g.v ∧ viewR (fun b l => blkAt W b l) 2 g.a g.fs.length g.cap (fmsV g.fs) ∧ ∀ f ∈ g.fs, FmIn W f := by
  obtain ⟨hl, hq⟩ := h
  have hl : cs.length = 2 := hl
  have h0 : Fits tree.look W (d + 5) 3 ((cs.drop 0).take 1) := hq (0, 3) (by simp)
  have h1 : Fits tree.look W (d + 5) 22 ((cs.drop 1).take 1) := hq (1, 22) (by simp)
  obtain ⟨p, hp, _⟩ := h0
  obtain ⟨a, n, cap, hs, hn, hc, h⟩ := h1
  obtain ⟨xs, hv, hx⟩ : ∃ xs, viewR (fun b l => blkAt W b l) 2 a n cap xs ∧ ∀ k, k < n → Fits tree.look W (d + 4) 79 ((xs.drop (k * 2)).take 2) := h (by decide)
  obtain ⟨l, hl', rfl⟩ := rows_of (enc := fun q : { f : Fm // FmIn W f } => q.1.v) n xs hv.len.1 (fun k hk => fm_of (hx k hk))
  have e : (l.map (·.1)).length = n := by rw [List.length_map, hl']
  refine ⟨⟨p, a, cap, l.map (·.1)⟩, ?_, ?_, fun f hf => ?_⟩
  · rw [two hl hp hs]; unfold Gr.v; rw [e]
  · have e2 : fmsV (l.map (·.1)) = l.flatMap fun q => q.1.v := by simp [fmsV]
    show viewR (fun b l => blkAt W b l) 2 a (l.map (·.1)).length cap (fmsV (l.map (·.1)))
    rw [e, e2]; exact hv
  · obtain ⟨q, _, rfl⟩ := List.mem_map.1 hf
    exact q.2
theorem rd_map {W : World} {fs : List Fm} (h : ∀ f ∈ fs, FmIn W f) : Rd (fs.map Fm.rd) W fun _ => False := by
  intro r hr
  obtain ⟨q, hq, rfl⟩ := List.mem_map.1 hr
  exact rd_view (h q hq)

def gramLaid : List (String × DataW Unit) := [("math/bits.deBruijn32tab", Rows.laid_math_bits_deBruijn32tab), ("math/bits.deBruijn64tab", Rows.laid_math_bits_deBruijn64tab), ("internal/strconv.uint64pow10", Rows.laid_internal_strconv_uint64pow10), ("errors.errorType", Rows.laid_errors_errorType)]
theorem laid_facts {W : World} (h : laidMetH Tryd.prog gramLaid W) : blkAt W 2 [.iface 188 (.agg #[.pointer (some ⟨7, 54, none⟩)])] := by
  have h' : laidMet Tryd.prog [("math/bits.deBruijn32tab", Rows.laid_math_bits_deBruijn32tab), ("math/bits.deBruijn64tab", Rows.laid_math_bits_deBruijn64tab), ("internal/strconv.uint64pow10", Rows.laid_internal_strconv_uint64pow10)] W ∧ handlesMet Tryd.prog [("errors.errorType", Rows.laid_errors_errorType)] W := h
  exact handle_of h'.2

set_option maxRecDepth 100000 in
theorem contract (H : Type) (enc : TypeId × Value → H) (W : World) (base : Nat) (args : Array Value) (ds gs : List (DataW H)) (before : List MemPlace)
    (hval : ∀ (j : Nat) t v, Tryd.f3.params[j]? = some t → args[j]? = some v → Value.okWide Tryd.prog W .any base t v)
    (hW : DataW.Whole enc Tryd.prog Tryd.f3.params.toList Rows.gramBeginsSpec.vars false W args.toList ds gs before) (hL : laidMetH Tryd.prog gramLaid W) :
    Calls Tryd.prog 3 args W fun e W' => ∃ v, e = .returned v ∧ Rows.gramBeginsSpec.post enc Tryd.prog Tryd.f3 false true false false W args v W' := by
  have hW' := hW
  obtain ⟨p, q, hA0, hV, rfl, _, _⟩ := hW'
  have hA : DataW.TrodAll enc Tryd.prog W 0 (fun _ => true) true Tryd.f3.params.toList args.toList ds p := hA0
  rw [Tryd.params3] at hA hval
  obtain ⟨v0, vs0, d0, ds0, p0, q0, hargs, rfl, rfl, ⟨fuel, h0⟩, r0⟩ := trodAll_cons hA
  obtain ⟨v1, vs1, d1, ds1, p1, q1, rfl, rfl, rfl, ⟨fuel1, h1⟩, r1⟩ := trodAll_cons r0
  obtain ⟨rfl, rfl, rfl⟩ := trodAll_nil r1
  obtain rfl : args = #[v0, v1] := by cases args; simp_all
  obtain ⟨rfl, rfl⟩ := trodVars_none hV
  obtain ⟨cs, rfl, _⟩ := okWide_struct Tryd.underlying24 (hval 0 24 v0 rfl rfl)
  obtain ⟨g, hg, hgv, hgf⟩ := gr_of (d := 1) (fits (tt := tree.look) (Tr.look_ok treeOk) 7 fuel _ _ _ h0)
  obtain ⟨a, n, cap, bs, hb, hn, hc, _, hv⟩ := bytes_of (d := 1) (fits (tt := tree.look) (Tr.look_ok treeOk) 3 fuel1 _ _ _ h1)
  obtain rfl : v1 = .slice a n cap := cells_one Tryd.underlying25 (hval 1 25 v1 rfl rfl) hb
  have f1 := laid_facts hL
  have hcs : cs = g.v.toArray := by
    apply Array.toList_inj.1
    exact hg
  subst hcs
  exact calls_true (args := [.agg g.v.toArray, .slice a n cap]) kids full (fun t ht => by rw [Tryd.params3] at ht; simp at ht; rcases ht with rfl | rfl <;> (rw [tsize]; decide)) rfl Tryd.underlying4 hW rfl rfl rfl rfl
    (begins_spec g a n cap bs hn hc) (Rd.cons (rd_blk f1) (Rd.cons (rd_view hv) (Rd.cons (rd_view hgv) (rd_map hgf))))

def gr0 : Value := .agg #[.int .i64 0, .slice none 0 0]
/-- A world for the witness. -/
theorem laid_met (os : Os) : laidMetH Tryd.prog Rows.gramBeginsRow.laid ((laidWorld os).forCall (fun _ _ => 0) ⟨#[], #[gr0, .slice none 0 0], []⟩).memory :=
  laidMetH_of_parts (laidMet_of_run' 8 (by kernel_rfl) (by kernel_rfl)) (by kernel_rfl)
theorem reads (os : Os) {H : Type} (enc : TypeId × Value → H) : ∃ d places, DataW.whole enc Tryd.prog ((laidWorld os).forCall (fun _ _ => 0) ⟨#[], #[gr0, .slice none 0 0], []⟩).memory Tryd.f3.params.toList Rows.gramBeginsSpec.vars false #[gr0, Value.slice none 0 0].toList 8 = some ([d, .nil], [], places) :=
  ⟨.agg [.lit (.int .i64 0), .nil], [], by kernel_rfl⟩

set_option maxRecDepth 100000 in
theorem lifted (os : Os) (started : os.Started) (H : Type) (enc : TypeId × Value → H) (F : Stop.Interp) :
    ReturnsInHanded {} Tryd.checked os 3 .any ((OpenSpec.ofChange Rows.gramBeginsSpec).preRow enc Tryd.prog Tryd.f3 Rows.gramBeginsRow.domain false Rows.gramBeginsRow.laid) (((OpenSpec.ofChange Rows.gramBeginsSpec).at F).post enc Tryd.prog Tryd.f3 false true false false) := by
  obtain ⟨d, places, hx⟩ := reads os enc
  refine returnsInHanded_of_row (C := Tryd.checked) (s := OpenSpec.ofChange Rows.gramBeginsSpec) own started (by kernel_rfl) Tryd.func3
    (witness_row_at (enc := enc) (C := Tryd.checked) false (laidWorld os) #[gr0, .slice none 0 0] rfl (by kernel_rfl) (by kernel_rfl) (by kernel_rfl)
      (OpenSpec.preRow_of_cond 8 hx (by kernel_rfl) (fun k hk => by cases hk) (by kernel_rfl) (laid_met os))) ?_
  intro W base args ds gs before hval hW _ _ _ hL _ _
  exact contract H enc W base args ds gs before hval hW hL

theorem said : Rows.GramBeginsSaid :=
  OpenClaim.holds_of_cond 3 Tryd.f3 rfl rfl rfl rfl rfl rfl rfl ⟨rfl, rfl, rfl, rfl, rfl⟩ rfl rfl rfl rfl rfl (by kernel_rfl) Tryd.func3 (by kernel_rfl)
    (of_decide_eq_true (by kernel_rfl)) (by unfold Func.isWrapper; first | (rw [if_pos (by decide +kernel)]; kernel_rfl) | (rw [if_neg (by decide +kernel)]; exact ⟨rfl, rfl⟩))
    (fun os started H enc _ F => by rw [OpenClaim.pre_eq_preRow]; exact lifted os started H enc F)

theorem plain (f : FuncId) (fn : Func) (hf : Tryd.pinned.checked.prog.funcNamed "nacelle/nacellelaw09.GramBegins" = some f) (hfn : Tryd.pinned.checked.prog.funcs[f]? = some fn) :
    true = Tryd.pinned.checked.prog.looks [] ∧ ∀ (j : Nat) t, fn.params[j]? = some t → Tryd.pinned.checked.prog.wantsStandIn t = false := by
  obtain rfl : f = 3 := Option.some.inj ((show Tryd.prog.funcNamed "nacelle/nacellelaw09.GramBegins" = some 3 by kernel_rfl).symm.trans hf) |>.symm
  obtain rfl : fn = Tryd.f3 := (Option.some.inj (Tryd.func3.symm.trans hfn)).symm
  refine ⟨by kernel_rfl, fun j t ht => ?_⟩
  rw [Tryd.params3] at ht
  have : t = 24 ∨ t = 25 := by simpa using Array.mem_of_getElem? ht
  rcases this with rfl | rfl
  · exact (show Tryd.prog.wantsStandIn 24 = false by kernel_rfl)
  · exact (show Tryd.prog.wantsStandIn 25 = false by kernel_rfl)

theorem card : Rows.GramBeginsCardSaid :=
  Claim7.holds_tied_plain_at .later [] _ _ _ _ said (fun _ h => by cases h) (by kernel_rfl) (fun _ h => by cases h) gramBegins_row_tie rfl ⟨rfl, rfl⟩ (by kernel_rfl) rfl plain (by kernel_rfl)
end Go.Proofs.YthlaacnjgdmakaaDoor.gramBegins
