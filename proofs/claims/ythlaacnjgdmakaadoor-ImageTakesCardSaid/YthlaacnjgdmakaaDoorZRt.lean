/- Whatever pieces come, of whatever is staged, what is staged then, and what it comes to in the end, is the document-s answer. -/
import Derived.Test.YthlaacnjgdmakaaDoorK10
/- ImageTakes: the row's word, the card. -/
namespace Go.Proofs.YthlaacnjgdmakaaDoor.imageTakes
open Go.W Go.ChangeShapes Go.WideShapes Go.ChangeAt Go.RowKit

theorem rows_of {α : Type} {enc : α → List Value} {s : Nat} : ∀ (n : Nat) (xs : List Value), xs.length = n * s → (∀ k, k < n → ∃ x, (xs.drop (k * s)).take s = enc x) → ∃ l : List α, l.length = n ∧ xs = l.flatMap enc
  | 0, xs, h, _ => ⟨[], rfl, by simpa using h⟩
  | n + 1, xs, h, hx => by
    obtain ⟨x, h0⟩ := hx 0 (Nat.succ_pos n)
    obtain ⟨l, h1, h2⟩ := rows_of (enc := enc) (s := s) n (xs.drop s) (by rw [List.length_drop, h, Nat.add_mul]; omega) (fun k hk => by
      obtain ⟨y, hy⟩ := hx (k + 1) (by omega)
      refine ⟨y, ?_⟩
      rw [List.drop_drop, ← hy]; congr 2; rw [Nat.add_mul]; omega)
    refine ⟨x :: l, by simp [h1], ?_⟩
    rw [List.flatMap_cons, ← h2, ← h0, Nat.zero_mul, List.drop_zero, List.take_append_drop]
theorem two {cs : List Value} (hl : cs.length = 2) {x y : Value} (h0 : (cs.drop 0).take 1 = [x]) (h1 : (cs.drop 1).take 1 = [y]) : cs = [x, y] := by
  match cs, hl with
  | [c0, c1], _ => simp at h0 h1; rw [h0, h1]
def PcIn (W : World) (q : Pc) : Prop := q.ok ∧ viewR (fun b l => blkAt W b l) 1 q.a q.n q.cap (bsV q.bs)
theorem pc_of {W : World} {d : Nat} {cs : List Value} (h : Fits tree.look W (d + 3) 48 cs) : ∃ q : { q : Pc // PcIn W q }, cs = q.1.v := by
  obtain ⟨hl, hq⟩ := h
  have hl : cs.length = 2 := hl
  have h0 : Fits tree.look W (d + 2) 3 ((cs.drop 0).take 1) := hq (0, 3) (by simp)
  have h1 : Fits tree.look W (d + 2) 25 ((cs.drop 1).take 1) := hq (1, 25) (by simp)
  obtain ⟨p, hp, _⟩ := h0
  obtain ⟨a, n, cap, bs, hb, hn, hc, _, hv⟩ := bytes_of h1
  exact ⟨⟨⟨p, a, n, cap, bs⟩, ⟨hn, hc⟩, hv⟩, two hl hp hb⟩
theorem pieces_of {W : World} {d : Nat} {cs : List Value} (h : Fits tree.look W (d + 4) 42 cs) : ∃ a n cap, ∃ ps : List Pc, cs = [.slice a n cap] ∧ n = ps.length ∧ viewR (fun b l => blkAt W b l) 2 a n cap (pcsV ps) ∧ ∀ q ∈ ps, PcIn W q := by
  obtain ⟨a, n, cap, rfl, hn, hc, h⟩ := h
  obtain ⟨xs, hv, hx⟩ : ∃ xs, viewR (fun b l => blkAt W b l) 2 a n cap xs ∧ ∀ k, k < n → Fits tree.look W (d + 3) 48 ((xs.drop (k * 2)).take 2) := h (by decide)
  obtain ⟨l, hl, rfl⟩ := rows_of (enc := fun q : { q : Pc // PcIn W q } => q.1.v) n xs hv.len.1 (fun k hk => pc_of (hx k hk))
  refine ⟨a, n, cap, l.map (·.1), rfl, by rw [List.length_map, hl], ?_, fun q hq => ?_⟩
  · have e : pcsV (l.map (·.1)) = l.flatMap fun q => q.1.v := by simp [pcsV]
    rw [e]; exact hv
  · obtain ⟨r, _, rfl⟩ := List.mem_map.1 hq
    exact r.2
/-- A staging that comes in. -/
theorem stg_of {W : World} {d : Nat} {cs : List Value} (h : Fits tree.look W (d + 4) 41 cs) : ∃ m : Man, ∃ a n cap, ∃ bs : List UInt8, m.sum.length = 32 ∧ cs = stgV m (.slice a n cap) ∧ n = bs.length ∧ n ≤ cap ∧ viewR (fun b l => blkAt W b l) 1 a n cap (bsV bs) := by
  obtain ⟨hl, hq⟩ := h
  have hl : cs.length = 36 := hl
  have h0 : Fits tree.look W (d + 3) 39 ((cs.drop 0).take 35) := hq (0, 39) (by simp)
  have h1 : Fits tree.look W (d + 3) 25 ((cs.drop 35).take 1) := hq (35, 25) (by simp)
  obtain ⟨m, hm, hcs, _⟩ := man_of h0
  obtain ⟨a, n, cap, bs, hb, hn, hc, _, hv⟩ := bytes_of (d := d + 1) h1
  refine ⟨m, a, n, cap, bs, hm, ?_, hn, hc, hv⟩
  have e : (cs.drop 35).take 1 = cs.drop 35 := List.take_of_length_le (by rw [List.length_drop]; omega)
  rw [e] at hb
  rw [List.drop_zero] at hcs
  unfold stgV
  rw [← hcs, ← hb, List.take_append_drop]
theorem rd_map {W : World} {ps : List Pc} (h : ∀ q ∈ ps, PcIn W q) : Rd (ps.map Pc.rd) W fun _ => False := by
  intro r hr
  obtain ⟨q, hq, rfl⟩ := List.mem_map.1 hr
  exact rd_view (h q hq).2

set_option maxRecDepth 100000 in
theorem contract (H : Type) (enc : TypeId × Value → H) (W : World) (base : Nat) (args : Array Value) (ds gs : List (DataW H)) (before : List MemPlace)
    (hval : ∀ (j : Nat) t v, Tryd.f4.params[j]? = some t → args[j]? = some v → Value.okWide Tryd.prog W .any base t v)
    (hW : DataW.Whole enc Tryd.prog Tryd.f4.params.toList Rows.imageTakesSpec.vars false W args.toList ds gs before) (hL : laidMetH Tryd.prog shaLaid W) :
    Calls Tryd.prog 4 args W fun e W' => ∃ v, e = .returned v ∧ Rows.imageTakesSpec.post enc Tryd.prog Tryd.f4 false true false false W args v W' := by
  have hW' := hW
  obtain ⟨p, q, hA0, hV, rfl, _, _⟩ := hW'
  have hA : DataW.TrodAll enc Tryd.prog W 0 (fun _ => true) true Tryd.f4.params.toList args.toList ds p := hA0
  rw [Tryd.params4] at hA hval
  obtain ⟨v0, vs0, d0, ds0, p0, q0, hargs, rfl, rfl, ⟨fuel, h0⟩, r0⟩ := trodAll_cons hA
  obtain ⟨v1, vs1, d1, ds1, p1, q1, rfl, rfl, rfl, ⟨fuel1, h1⟩, r1⟩ := trodAll_cons r0
  obtain ⟨rfl, rfl, rfl⟩ := trodAll_nil r1
  obtain rfl : args = #[v0, v1] := by cases args; simp_all
  obtain ⟨rfl, rfl⟩ := trodVars_none hV
  obtain ⟨cs, rfl, _⟩ := okWide_struct Tryd.underlying41 (hval 0 41 v0 rfl rfl)
  obtain ⟨m, a, n, cap, bs, hms, hm, hn, hc, hv⟩ := stg_of (d := 1) (fits (tt := tree.look) (Tr.look_ok treeOk) 5 fuel _ _ _ h0)
  obtain ⟨ap, np, capp, ps, hb, hnp, hvp, hps⟩ := pieces_of (d := 1) (fits (tt := tree.look) (Tr.look_ok treeOk) 5 fuel1 _ _ _ h1)
  obtain rfl : v1 = .slice ap np capp := cells_one Tryd.underlying42 (hval 1 42 v1 rfl rfl) hb
  obtain ⟨f1, f2, f3⟩ := laid_facts hL
  have hcs : cs = (stgV m (.slice a n cap)).toArray := by
    apply Array.toList_inj.1
    exact hm
  subst hcs
  exact calls_true (args := [.agg (stgV m (.slice a n cap)).toArray, .slice ap np capp]) kids full (fun t ht => by rw [Tryd.params4] at ht; simp at ht; rcases ht with rfl | rfl <;> (rw [tsize]; decide)) rfl Tryd.underlying4 hW rfl rfl rfl rfl
    (takes_spec m hms a n cap bs hn hc ap np capp ps hnp (fun q hq => (hps q hq).1)) (Rd.cons (rd_blk f1) (Rd.cons (rd_blk f2) (Rd.cons (rd_blk f3) (Rd.cons (rd_view hv) (Rd.cons (rd_view hvp) (rd_map hps))))))

/-- A world for the witness. -/
theorem laid_met (os : Os) : laidMetH Tryd.prog Rows.imageTakesRow.laid ((laidWorld os).forCall (fun _ _ => 0) ⟨#[], #[.agg stg0.toArray, .slice none 0 0], []⟩).memory :=
  laidMetH_of_parts (laidMet_of_run' 8 (by kernel_rfl) (by kernel_rfl)) (by kernel_rfl)
theorem reads (os : Os) {H : Type} (enc : TypeId × Value → H) : ∃ d places, DataW.whole enc Tryd.prog ((laidWorld os).forCall (fun _ _ => 0) ⟨#[], #[.agg stg0.toArray, .slice none 0 0], []⟩).memory Tryd.f4.params.toList Rows.imageTakesSpec.vars false #[Value.agg stg0.toArray, Value.slice none 0 0].toList 8 = some ([d, .nil], [], places) :=
  ⟨.agg [.agg [.lit (.int .i64 0), .lit (.int .u32 0), .lit (.int .i64 0), .agg (List.replicate 32 (.lit (.int .u8 0)))], .nil], [], by kernel_rfl⟩

set_option maxRecDepth 100000 in
theorem lifted (os : Os) (started : os.Started) (H : Type) (enc : TypeId × Value → H) (F : Stop.Interp) :
    ReturnsInHanded {} Tryd.checked os 4 .any ((OpenSpec.ofChange Rows.imageTakesSpec).preRow enc Tryd.prog Tryd.f4 Rows.imageTakesRow.domain false Rows.imageTakesRow.laid) (((OpenSpec.ofChange Rows.imageTakesSpec).at F).post enc Tryd.prog Tryd.f4 false true false false) := by
  obtain ⟨d, places, hx⟩ := reads os enc
  refine returnsInHanded_of_row (C := Tryd.checked) (s := OpenSpec.ofChange Rows.imageTakesSpec) own started (by kernel_rfl) Tryd.func4
    (witness_row_at (enc := enc) (C := Tryd.checked) false (laidWorld os) #[.agg stg0.toArray, .slice none 0 0] rfl (by kernel_rfl) (by kernel_rfl) (by kernel_rfl)
      (OpenSpec.preRow_of_cond 8 hx (by kernel_rfl) (fun k hk => by cases hk) (by kernel_rfl) (laid_met os))) ?_
  intro W base args ds gs before hval hW _ _ _ hL _ _
  exact contract H enc W base args ds gs before hval hW hL

theorem said : Rows.ImageTakesSaid :=
  OpenClaim.holds_of_cond 4 Tryd.f4 rfl rfl rfl rfl rfl rfl rfl ⟨rfl, rfl, rfl, rfl, rfl⟩ rfl rfl rfl rfl rfl (by kernel_rfl) Tryd.func4 (by kernel_rfl)
    (of_decide_eq_true (by kernel_rfl)) (by unfold Func.isWrapper; first | (rw [if_pos (by decide +kernel)]; kernel_rfl) | (rw [if_neg (by decide +kernel)]; exact ⟨rfl, rfl⟩))
    (fun os started H enc _ F => by rw [OpenClaim.pre_eq_preRow]; exact lifted os started H enc F)

theorem plain (f : FuncId) (fn : Func) (hf : Tryd.pinned.checked.prog.funcNamed "nacelle/nacellelaw19.ImageTakes" = some f) (hfn : Tryd.pinned.checked.prog.funcs[f]? = some fn) :
    true = Tryd.pinned.checked.prog.looks [] ∧ ∀ (j : Nat) t, fn.params[j]? = some t → Tryd.pinned.checked.prog.wantsStandIn t = false := by
  obtain rfl : f = 4 := Option.some.inj ((show Tryd.prog.funcNamed "nacelle/nacellelaw19.ImageTakes" = some 4 by kernel_rfl).symm.trans hf) |>.symm
  obtain rfl : fn = Tryd.f4 := (Option.some.inj (Tryd.func4.symm.trans hfn)).symm
  refine ⟨by kernel_rfl, fun j t ht => ?_⟩
  rw [Tryd.params4] at ht
  have : t = 41 ∨ t = 42 := by simpa using Array.mem_of_getElem? ht
  rcases this with rfl | rfl
  · exact (show Tryd.prog.wantsStandIn 41 = false by kernel_rfl)
  · exact (show Tryd.prog.wantsStandIn 42 = false by kernel_rfl)

theorem card : Rows.ImageTakesCardSaid :=
  Claim7.holds_tied_plain_at .later [] _ _ _ _ said (fun _ h => by cases h) (by kernel_rfl) (fun _ h => by cases h) imageTakes_row_tie rfl ⟨rfl, rfl⟩ (by kernel_rfl) rfl plain (by kernel_rfl)
end Go.Proofs.YthlaacnjgdmakaaDoor.imageTakes
