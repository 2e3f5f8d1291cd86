/- Part of the proof: LGl, LGm, LLa, LCl -/
import Derived.Test.YthlaacnjgdmakaaDoorK10
import Derived.Test.YthlaacnjgdmakaaDoorK7
import Derived.Test.YthlaacnjgdmakaaDoorK2
import Derived.Test.YthlaacnjgdmakaaDoorK8
import Derived.Test.YthlaacnjgdmakaaDoorK3
import Derived.Test.YthlaacnjgdmakaaDoorRows
import Derived.Test.YthlaacnjgdmakaaDoorTie
import Derived.Test.YthlaacnjgdmakaaDoorCards
import Derived.LaidHandle
/- nacellelaw09: bytes, few, short, awake. -/
namespace Go.Proofs.YthlaacnjgdmakaaDoor
open Go.W

theorem bytes9_spec (c : UInt8) : Fun Tryd.prog 35 [bV c] [] [] fun v H => v = .agg (Sg.v ⟨-1, c, c⟩).toArray ∧ H = [] := by
  refine xenter (p := pg) Tryd.call35 Tryd.func35 fun C => ?_
  repeat (first | refine xst ?_ | refine xar ?_ | refine xop ?_ | refine xlen ?_ | refine xld rfl ?_ | refine xsto rfl ?_ | refine xno ?_ | refine xt ?_ | refine xf ?_ | refine xnu ?_)
  refine xnew fun p => ?_
  repeat (first | refine xst ?_ | refine xar ?_ | refine xop ?_ | refine xlen ?_ | refine xld rfl ?_ | refine xsto rfl ?_ | refine xno ?_ | refine xt ?_ | refine xf ?_ | refine xnu ?_)
  exact xretm [] rfl (.c .nil rfl rfl (partF_all rfl rfl)) ⟨rfl, rfl⟩

theorem RS.headN {fn : Func} {rd : List HProp} {post : Post} {C : Ctx pg fn rd post} {sz : Nat} {a : Option Addr} {n cap : Nat} {xs : List Value} (h : RS C sz a n cap xs) {m : Nat} (hm : m ≤ n) : RS C sz a m cap (xs.take (m * sz)) := by
  have := RS.sub h (Nat.zero_le m) hm
  rw [subA_nought] at this
  simpa using this

def cut9 (f : Fm) : Fm := ⟨f.name, f.a, f.cap, f.body.take 9⟩
theorem sgsV_take (l : List Sg) (k : Nat) : (sgsV l).take (k * 3) = sgsV (l.take k) := by
  induction l generalizing k with
  | nil => simp [sgsV]
  | cons s l ih =>
    cases k with
    | zero => simp [sgsV]
    | succ k => rw [List.take_succ_cons, show sgsV (s :: l.take k) = s.v ++ sgsV (l.take k) from rfl, ← ih, Nat.succ_mul, Nat.add_comm (k * 3) 3, show sgsV (s :: l) = s.v ++ sgsV l from rfl, take_len (Sg.v_len s)]
theorem RS.cut9 {fn : Func} {rd : List HProp} {post : Post} {C : Ctx pg fn rd post} {f : Fm} (h : RS C 3 f.a f.body.length f.cap (sgsV f.body)) : RS C 3 (cut9 f).a (cut9 f).body.length (cut9 f).cap (sgsV (cut9 f).body) := by
  have hl : (f.body.take 9).length = min 9 f.body.length := List.length_take
  have := RS.headN h (m := (f.body.take 9).length) (by omega)
  rw [sgsV_take] at this
  have e : f.body.take (f.body.take 9).length = f.body.take 9 := by
    rw [hl]
    rcases Nat.le_total 9 f.body.length with h' | h'
    · rw [Nat.min_eq_left h']
    · rw [Nat.min_eq_right h', List.take_length, List.take_of_length_le h']
  rw [e] at this
  exact this

theorem fmsV_append (l m : List Fm) : fmsV (l ++ m) = fmsV l ++ fmsV m := by simp [fmsV]
def few9 (fs : List Fm) : List Fm := (fs.take 50).map cut9
theorem gfew_spec (g : Gr) : Fun Tryd.prog 9 [.agg g.v.toArray] g.rd [] fun v H => ∃ a cap, v = .agg (Gr.v ⟨g.names, a, cap, few9 g.fs⟩).toArray ∧ H = [sl 2 a (few9 g.fs).length cap (fmsV (few9 g.fs))] := by
  refine xenter (p := pg) Tryd.call9 Tryd.func9 fun C => ?_
  have hr : RS C 2 g.a g.fs.length g.cap (fmsV g.fs) := RP.slR (RP.of C (X := slR 2 g.a g.fs.length g.cap (fmsV g.fs)) (by simp [Gr.rd]))
  have hfr : ∀ f ∈ g.fs, RS C 3 f.a f.body.length f.cap (sgsV f.body) := fun f hf => RP.slR (RP.of C (fm_rd g hf))
  have hfl := fmsV_len g.fs
  refine xst ?_
  refine xst ?_
  refine xnew fun gb => ?_
  refine xrep 0 g.v rfl rfl ?_
  refine xnew fun rb => ?_
  refine xrep 0 [.int .i64 0, .slice none 0 0] rfl rfl ?_
  repeat (refine xnot 8 ?_; first | refine xst ?_ | refine xar ?_ | refine xop ?_ | refine xlen ?_ | refine xld rfl ?_ | refine xsto rfl ?_ | refine xno ?_ | refine xt ?_ | refine xf ?_ | refine xnu ?_)
  refine xE 8 (.agg (#[.int .i64 g.names, .slice none 0 0])) rfl rfl ?_
  refine xnew fun ob => ?_
  refine xrep 0 [.int .i64 0, .slice none 0 0] rfl rfl ?_
  repeat (first | refine xst ?_ | refine xar ?_ | refine xop ?_ | refine xlen ?_ | refine xld rfl ?_ | refine xsto rfl ?_ | refine xno ?_ | refine xt ?_ | refine xf ?_ | refine xnu ?_)
  refine xrep 0 [.int .i64 g.names, .slice none 0 0] rfl rfl ?_
  refine G.sln 2 ?_
  refine G.loop (σ := Nat × Option Addr × Nat) (fun s => [(1, .pointer (some ⟨gb, 0, none⟩)), (2, .pointer (some ⟨rb, 0, none⟩)), (3, .pointer (some ⟨ob, 0, none⟩)), (4, .int .i64 (s.1 : Int))])
    (fun s => [sl 2 s.2.1 s.1 s.2.2 (fmsV ((g.fs.take s.1).map cut9)), pts ob [.int .i64 g.names, .slice s.2.1 s.1 s.2.2], pts rb [.int .i64 0, .slice none 0 0], pts gb g.v]) (fun s => s.1 ≤ g.fs.length ∧ s.1 ≤ 50) (fun s => 50 - s.1) (0, none, 0) ⟨Nat.zero_le _, Nat.zero_le _⟩ ⟨rfl, rfl, rfl, rfl, trivial⟩ (by show Ent _ [sl 2 none 0 0 [], pts ob [.int .i64 g.names, .slice none 0 0], pts rb [.int .i64 0, .slice none 0 0], pts gb g.v]; exact ent_pick) ?_
  rintro ⟨i, a, cap⟩ ⟨hi, hi50⟩
  simp only at hi hi50
  show G C _ [(1, .pointer (some ⟨gb, 0, none⟩)), (2, .pointer (some ⟨rb, 0, none⟩)), (3, .pointer (some ⟨ob, 0, none⟩)), (4, .int .i64 (i : Int))] [sl 2 a i cap (fmsV ((g.fs.take i).map cut9)), pts ob [.int .i64 g.names, .slice a i cap], pts rb [.int .i64 0, .slice none 0 0], pts gb g.v]
  repeat (refine xnot 13 ?_; first | refine xst ?_ | refine xar ?_ | refine xop ?_ | refine xlen ?_ | refine xld rfl ?_ | refine xsto rfl ?_ | refine xno ?_ | refine xt ?_ | refine xf ?_ | refine xnu ?_)
  by_cases h : i < g.fs.length ∧ i < 50
  · obtain ⟨h, h50⟩ := h
    refine xE 13 (.bool true) rfl (congrArg Value.bool (decide_eq_true (show (i : Int) < (g.fs.length : Int) by omega))) ?_
    repeat (refine xnot 16 ?_; first | refine xst ?_ | refine xar ?_ | refine xop ?_ | refine xlen ?_ | refine xld rfl ?_ | refine xsto rfl ?_ | refine xno ?_ | refine xt ?_ | refine xf ?_ | refine xnu ?_)
    refine xE 16 (.bool true) rfl (congrArg Value.bool (decide_eq_true (show (i : Int) < 50 by omega))) ?_
    obtain ⟨fbb, fbo, hfa, hrb⟩ := hr.some (by omega)
    haveI := hrb
    have hel := fmsV_get h
    have htk : (g.fs.take (i + 1)).map cut9 = (g.fs.take i).map cut9 ++ [cut9 g.fs[i]] := by rw [List.take_succ_eq_append_getElem h, List.map_append]; rfl
    have hcap := (hfr _ (List.getElem_mem h)).len.2
    generalize g.fs[i] = f at hel htk hcap
    repeat (refine xnot 21 ?_; first | refine xst ?_ | refine xar ?_ | refine xop ?_ | refine xlen ?_ | refine xld rfl ?_ | refine xsto rfl ?_ | refine xno ?_ | refine xt ?_ | refine xf ?_ | refine xnu ?_)
    refine xE 21 (.slice (some ⟨fbb, fbo, none⟩) g.fs.length g.cap) rfl (by rw [hfa]) ?_
    repeat (first | refine xst ?_ | refine xar ?_ | refine xop ?_ | refine xlen ?_ | refine xld rfl ?_ | refine xsto rfl ?_ | refine xno ?_ | refine xt ?_ | refine xf ?_ | refine xnu ?_)
    refine xix ?_ (hk := h)
    refine xldla rfl (i * 2) f.v rfl hel (by rw [hfl]; show i * 2 + 2 ≤ _; omega) ?_
    refine xnew fun p5 => ?_
    refine xsto rfl ?_
    refine xrep 0 f.v rfl rfl ?_
    refine xst ?_
    refine xst ?_
    refine G.cut (σ := Unit) (fun _ => [(1, .pointer (some ⟨gb, 0, none⟩)), (2, .pointer (some ⟨rb, 0, none⟩)), (3, .pointer (some ⟨ob, 0, none⟩)), (4, .int .i64 (i : Int)), (5, .pointer (some ⟨p5, 0, none⟩))])
      (fun _ => [pts p5 (cut9 f).v, sl 2 a i cap (fmsV ((g.fs.take i).map cut9)), pts ob [.int .i64 g.names, .slice a i cap], pts rb [.int .i64 0, .slice none 0 0], pts gb g.v]) (fun _ => True) ?_ ?_
    · obtain ⟨nm, fa, fcap, body⟩ := f
      repeat (first | refine xst ?_ | refine xar ?_ | refine xop ?_ | refine xlen ?_ | refine xld rfl ?_ | refine xsto rfl ?_ | refine xno ?_ | refine xt ?_ | refine xf ?_ | refine xnu ?_)
      refine xd (q := (9 : Int) < (body.length : Int)) (fun h9 => ?_) (fun h9 => ?_)
      · repeat (first | refine xst ?_ | refine xar ?_ | refine xop ?_ | refine xlen ?_ | refine xld rfl ?_ | refine xsto rfl ?_ | refine xno ?_ | refine xt ?_ | refine xf ?_ | refine xnu ?_)
        have h9' : 9 ≤ fcap := by simp only at hcap; omega
        refine xslice 0 9 rfl rfl rfl (by omega) h9' ?_
        refine xE 31 (.slice fa 9 fcap) rfl (by rw [subA_nought]; rfl) ?_
        repeat (first | refine xst ?_ | refine xar ?_ | refine xop ?_ | refine xlen ?_ | refine xld rfl ?_ | refine xsto rfl ?_ | refine xno ?_ | refine xt ?_ | refine xf ?_ | refine xnu ?_)
        refine xrep 0 (Fm.v (cut9 ⟨nm, fa, fcap, body⟩)) rfl (by show _ = [Value.int .i64 nm, .slice fa (body.take 9).length fcap]; rw [List.length_take, Nat.min_eq_left (by omega)]) ?_
        exact G.fin () trivial ⟨rfl, rfl, rfl, rfl, rfl, trivial⟩ (Ent.refl _)
      · repeat (first | refine xst ?_ | refine xar ?_ | refine xop ?_ | refine xlen ?_ | refine xld rfl ?_ | refine xsto rfl ?_ | refine xno ?_ | refine xt ?_ | refine xf ?_ | refine xnu ?_)
        refine xrep 0 (Fm.v (cut9 ⟨nm, fa, fcap, body⟩)) rfl (by show _ = [Value.int .i64 nm, .slice fa (body.take 9).length fcap]; rw [List.take_of_length_le (by omega)]; rfl) ?_
        exact G.fin () trivial ⟨rfl, rfl, rfl, rfl, rfl, trivial⟩ (Ent.refl _)
    rintro _ _
    show G C _ [(1, .pointer (some ⟨gb, 0, none⟩)), (2, .pointer (some ⟨rb, 0, none⟩)), (3, .pointer (some ⟨ob, 0, none⟩)), (4, .int .i64 (i : Int)), (5, .pointer (some ⟨p5, 0, none⟩))] [pts p5 (cut9 f).v, sl 2 a i cap (fmsV ((g.fs.take i).map cut9)), pts ob [.int .i64 g.names, .slice a i cap], pts rb [.int .i64 0, .slice none 0 0], pts gb g.v]
    repeat (first | refine xst ?_ | refine xar ?_ | refine xop ?_ | refine xlen ?_ | refine xld rfl ?_ | refine xsto rfl ?_ | refine xno ?_ | refine xt ?_ | refine xf ?_ | refine xnu ?_)
    refine xbsl fun b36 => ?_
    refine xrep 0 (cut9 f).v rfl rfl ?_
    refine xapp (fmsV ((g.fs.take i).map cut9)) rfl (SrcOk.blk (ys := (cut9 f).v) rfl (by exact Nat.le_refl 2) (by intro v hv; simp [Fm.v] at hv; rcases hv with rfl | rfl <;> rfl)) (by omega) fun a' cap' => ?_
    repeat (first | refine xst ?_ | refine xar ?_ | refine xop ?_ | refine xlen ?_ | refine xld rfl ?_ | refine xsto rfl ?_ | refine xno ?_ | refine xt ?_ | refine xf ?_ | refine xnu ?_)
    refine G.fin (i + 1, a', cap') ⟨⟨by show i + 1 ≤ _; omega, by show i + 1 ≤ 50; omega⟩, by show 50 - (i + 1) < 50 - i; omega⟩ ⟨rfl, rfl, rfl, rfl, trivial⟩ ?_
    show Ent _ [sl 2 a' (i + 1) cap' (fmsV ((g.fs.take (i + 1)).map cut9)), pts ob [.int .i64 g.names, .slice a' (i + 1) cap'], pts rb [.int .i64 0, .slice none 0 0], pts gb g.v]
    rw [htk, fmsV_append, show fmsV [cut9 f] = (cut9 f).v by simp [fmsV]]
    exact ent_pick
  · have hend : few9 g.fs = (g.fs.take i).map cut9 ∧ (few9 g.fs).length = i := by
      have : g.fs.take 50 = g.fs.take i := by
        rcases Nat.lt_or_ge i 50 with h50 | h50
        · rw [List.take_of_length_le (by omega), List.take_of_length_le (by omega)]
        · rw [show i = 50 by omega]
      unfold few9
      rw [this]
      exact ⟨rfl, by rw [List.length_map, List.length_take]; omega⟩
    refine G.cut (σ := Unit) (fun _ => [(17, .bool false), (1, .pointer (some ⟨gb, 0, none⟩)), (2, .pointer (some ⟨rb, 0, none⟩)), (3, .pointer (some ⟨ob, 0, none⟩)), (4, .int .i64 (i : Int))]) (fun _ => [sl 2 a i cap (fmsV ((g.fs.take i).map cut9)), pts ob [.int .i64 g.names, .slice a i cap], pts rb [.int .i64 0, .slice none 0 0], pts gb g.v]) (fun _ => True) ?_ ?_
    · by_cases h1 : i < g.fs.length
      · refine xE 13 (.bool true) rfl (congrArg Value.bool (decide_eq_true (show (i : Int) < (g.fs.length : Int) by omega))) ?_
        repeat (refine xnot 16 ?_; first | refine xst ?_ | refine xar ?_ | refine xop ?_ | refine xlen ?_ | refine xld rfl ?_ | refine xsto rfl ?_ | refine xno ?_ | refine xt ?_ | refine xf ?_ | refine xnu ?_)
        refine xE 16 (.bool false) rfl (congrArg Value.bool (decide_eq_false (show ¬ (i : Int) < 50 by omega))) ?_
        repeat (refine xnot 17 ?_; first | refine xst ?_ | refine xar ?_ | refine xop ?_ | refine xlen ?_ | refine xld rfl ?_ | refine xsto rfl ?_ | refine xno ?_ | refine xt ?_ | refine xf ?_ | refine xnu ?_)
        refine xst ?_
        exact G.fin () trivial ⟨rfl, rfl, rfl, rfl, rfl, trivial⟩ (Ent.refl _)
      · refine xE 13 (.bool false) rfl (congrArg Value.bool (decide_eq_false (show ¬ (i : Int) < (g.fs.length : Int) by omega))) ?_
        repeat (refine xnot 17 ?_; first | refine xst ?_ | refine xar ?_ | refine xop ?_ | refine xlen ?_ | refine xld rfl ?_ | refine xsto rfl ?_ | refine xno ?_ | refine xt ?_ | refine xf ?_ | refine xnu ?_)
        refine xst ?_
        exact G.fin () trivial ⟨rfl, rfl, rfl, rfl, rfl, trivial⟩ (Ent.refl _)
    rintro _ _
    show G C _ [(17, .bool false), (1, .pointer (some ⟨gb, 0, none⟩)), (2, .pointer (some ⟨rb, 0, none⟩)), (3, .pointer (some ⟨ob, 0, none⟩)), (4, .int .i64 (i : Int))] [sl 2 a i cap (fmsV ((g.fs.take i).map cut9)), pts ob [.int .i64 g.names, .slice a i cap], pts rb [.int .i64 0, .slice none 0 0], pts gb g.v]
    repeat (first | refine xst ?_ | refine xar ?_ | refine xop ?_ | refine xlen ?_ | refine xld rfl ?_ | refine xsto rfl ?_ | refine xno ?_ | refine xt ?_ | refine xf ?_ | refine xnu ?_)
    refine xretm [0] rfl (.c .nil rfl rfl (partF_all rfl rfl)) ?_
    refine ⟨a, cap, ?_, ?_⟩
    · show Value.agg (Array.mk [.int .i64 g.names, .slice a i cap]) = .agg (Array.mk [.int .i64 g.names, .slice a (few9 g.fs).length cap])
      rw [hend.2]
    · rw [hend.2, hend.1]

theorem gshort_spec (a : Option Addr) (n cap : Nat) (hc : n ≤ cap) (k : Nat) : Fun Tryd.prog 10 [.slice a n cap, .int .i64 k] [] [] fun v H => v = .slice a (min n k) cap ∧ H = [] := by
  refine xenter (p := pg) Tryd.call10 Tryd.func10 fun C => ?_
  repeat (first | refine xst ?_ | refine xar ?_ | refine xop ?_ | refine xlen ?_ | refine xld rfl ?_ | refine xsto rfl ?_ | refine xno ?_ | refine xt ?_ | refine xf ?_ | refine xnu ?_)
  refine xd (q := (k : Int) < (n : Int)) (fun h => ?_) (fun h => ?_)
  · repeat (first | refine xst ?_ | refine xar ?_ | refine xop ?_ | refine xlen ?_ | refine xld rfl ?_ | refine xsto rfl ?_ | refine xno ?_ | refine xt ?_ | refine xf ?_ | refine xnu ?_)
    refine xslice 0 k rfl rfl rfl (by omega) (by omega) ?_
    refine xE 11 (.slice a k cap) rfl ?_ ?_
    · rw [subA_nought]; rfl
    repeat (first | refine xst ?_ | refine xar ?_ | refine xop ?_ | refine xlen ?_ | refine xld rfl ?_ | refine xsto rfl ?_ | refine xno ?_ | refine xt ?_ | refine xf ?_ | refine xnu ?_)
    refine xret [] ⟨?_, rfl⟩
    rw [Nat.min_eq_right (by omega)]; rfl
  · repeat (first | refine xst ?_ | refine xar ?_ | refine xop ?_ | refine xlen ?_ | refine xld rfl ?_ | refine xsto rfl ?_ | refine xno ?_ | refine xt ?_ | refine xf ?_ | refine xnu ?_)
    refine xret [] ⟨?_, rfl⟩
    rw [Nat.min_eq_left (by omega)]; rfl

/-! ## awake -/
def grA (a b : Option Addr) : Gr := ⟨1, b, 2, [⟨0, a, 2, [⟨-1, 97, 97⟩, ⟨0, 0, 0⟩]⟩, ⟨0, none, 0, []⟩]⟩
def grB (a b : Option Addr) : Gr := ⟨1, b, 2, [⟨0, a, 2, [⟨0, 0, 0⟩, ⟨-1, 97, 97⟩]⟩, ⟨0, none, 0, []⟩]⟩
def fxA1 : Fx := (Fx.zero.setTx 0 true).setNl 0 true
def fxA2 : Fx := fxA1.setFi 0 (1 <<< 97)
def fxB3 : Fx := fxA2.setFo 0 (1 <<< 97)
theorem shA (a b : Option Addr) : shapeF (grA a b) = [] := by rfl
theorem shB (a b : Option Addr) : shapeF (grB a b) = [] := by rfl
def fxEqb (F G : Fx) : Bool := F.text == G.text && (F.null == G.null && (F.first == G.first && F.follow == G.follow))
theorem fxEq {F G : Fx} (h : fxEqb F G = true) : F = G := by
  obtain ⟨a, b, c, d⟩ := F
  obtain ⟨a', b', c', d'⟩ := G
  simp only [fxEqb, Bool.and_eq_true, beq_iff_eq] at h
  obtain ⟨h1, h2, h3, h4⟩ := h
  rw [h1, h2, h3, h4]
theorem fitA (a b : Option Addr) : FitR (grA a b) fxA2 [] :=
  .inr ⟨shA a b, fxA2, ⟨fxA1, fxA2, ⟨fxEq (by kernel_rfl), 1, fxEq (by kernel_rfl)⟩, ⟨fxEq (by kernel_rfl), 1, fxEq (by kernel_rfl)⟩, ⟨fxEq (by kernel_rfl), 0, rfl⟩⟩, of_decide_eq_true (by kernel_rfl), rfl⟩
theorem fitB (a b : Option Addr) : FitR (grB a b) Fx.zero [(91, 0)] :=
  .inr ⟨shB a b, fxB3, ⟨fxA1, fxA2, ⟨fxEq (by kernel_rfl), 1, fxEq (by kernel_rfl)⟩, ⟨fxEq (by kernel_rfl), 1, fxEq (by kernel_rfl)⟩, ⟨fxEq (by kernel_rfl), 1, fxEq (by kernel_rfl)⟩⟩, of_decide_eq_true (by kernel_rfl), rfl⟩
theorem matA (a b : Option Addr) : mGo fxA2 (grA a b).fs (heightsF fxA2 (grA a b).fs (grA a b).names.toNat) 20 [⟨0, 0, 0⟩] [97, 97, 97] = some 1 := by kernel_rfl
theorem matB (a b : Option Addr) : mGo fxA2 (grA a b).fs (heightsF fxA2 (grA a b).fs (grA a b).names.toNat) 20 [⟨0, 0, 0⟩] [97, 97, 98] = some 0 := by kernel_rfl
theorem matchA {a b : Option Addr} {bs : List UInt8} {r : Int} (h : mGo fxA2 (grA a b).fs (heightsF fxA2 (grA a b).fs (grA a b).names.toNat) 20 [⟨0, 0, 0⟩] bs = some r) {F : Fx} {l : List (Int × Int)} {v : Value} (hR : FitR (grA a b) F l) (hm : matchR (grA a b) bs F l v) : v = .tuple #[.int .i64 r, .int .i64 0] := by
  obtain ⟨rfl, rfl⟩ := hR.det (fitA a b)
  rcases hm with ⟨h1, _⟩ | ⟨_, k, r', h1, h2⟩
  · exact absurd rfl h1
  · rw [h2, mGo_det h1 h]
end Go.Proofs.YthlaacnjgdmakaaDoor

/- nacellelaw09: awake, GramBegins. -/
namespace Go.Proofs.YthlaacnjgdmakaaDoor
open Go.W

theorem rdAll_gr {fn : Func} {rd : List HProp} {post : Post} {C : Ctx pg fn rd post} {H : List HProp} {g : Gr} (h : RdOk C H (slR 2 g.a g.fs.length g.cap (fmsV g.fs))) (hf : ∀ f ∈ g.fs, RdOk C H (slR 3 f.a f.body.length f.cap (sgsV f.body))) : RdAll C H g.rd :=
  ⟨fun r hr => by
    rcases List.mem_cons.1 hr with rfl | hr
    · exact h
    · obtain ⟨f, hf', rfl⟩ := List.mem_map.1 hr
      exact hf f hf'⟩

abbrev bdA : List Sg := [⟨-1, 97, 97⟩, ⟨0, 0, 0⟩]
abbrev bdB : List Sg := [⟨0, 0, 0⟩, ⟨-1, 97, 97⟩]
instance rdA {fn : Func} {rd : List HProp} {post : Post} (C : Ctx pg fn rd post) (H : List HProp) (b1 b2 : Nat) (R R' : List HProp) [h1 : Rem H (sl 2 (some ⟨b2, 0, none⟩) 2 2 (fmsV (grA (some ⟨b1, 0, none⟩) (some ⟨b2, 0, none⟩)).fs)) R] [h2 : Rem H (sl 3 (some ⟨b1, 0, none⟩) 2 2 (sgsV bdA)) R'] :
    RdAll C H (grA (some ⟨b1, 0, none⟩) (some ⟨b2, 0, none⟩)).rd :=
  rdAll_gr (RdOk.slo C H 2 (some ⟨b2, 0, none⟩) 2 2 _ R) fun f hf => by
    rcases List.mem_cons.1 hf with rfl | hf
    · exact RdOk.slo C H 3 (some ⟨b1, 0, none⟩) 2 2 _ R'
    · rcases List.mem_cons.1 hf with rfl | hf
      · exact RdOk.nil C H 3
      · cases hf
instance rdB {fn : Func} {rd : List HProp} {post : Post} (C : Ctx pg fn rd post) (H : List HProp) (b1 b2 : Nat) (R R' : List HProp) [h1 : Rem H (sl 2 (some ⟨b2, 0, none⟩) 2 2 (fmsV (grB (some ⟨b1, 0, none⟩) (some ⟨b2, 0, none⟩)).fs)) R] [h2 : Rem H (sl 3 (some ⟨b1, 0, none⟩) 2 2 (sgsV bdB)) R'] :
    RdAll C H (grB (some ⟨b1, 0, none⟩) (some ⟨b2, 0, none⟩)).rd :=
  rdAll_gr (RdOk.slo C H 2 (some ⟨b2, 0, none⟩) 2 2 _ R) fun f hf => by
    rcases List.mem_cons.1 hf with rfl | hf
    · exact RdOk.slo C H 3 (some ⟨b1, 0, none⟩) 2 2 _ R'
    · rcases List.mem_cons.1 hf with rfl | hf
      · exact RdOk.nil C H 3
      · cases hf
theorem blA (a b : Option Addr) : ∀ f ∈ (grA a b).fs, f.body.length ≤ 1000000 := by
  intro f hf
  simp [grA] at hf
  rcases hf with rfl | rfl <;> simp
theorem blB (a b : Option Addr) : ∀ f ∈ (grB a b).fs, f.body.length ≤ 1000000 := by
  intro f hf
  simp [grB] at hf
  rcases hf with rfl | rfl <;> simp

theorem awake9_spec : Fun Tryd.prog 12 [] [gErr] [] fun v H => v = .bool true ∧ H = [] := by
  refine xenter (p := pg) Tryd.call12 Tryd.func12 fun C => ?_
  haveI : RP C gErr := RP.of C (by simp)
  repeat (first | refine xst ?_ | refine xar ?_ | refine xop ?_ | refine xlen ?_ | refine xld rfl ?_ | refine xsto rfl ?_ | refine xno ?_ | refine xt ?_ | refine xf ?_ | refine xnu ?_)
  refine xcall (bytes9_spec 97) ?_
  rintro v H ⟨rfl, rfl⟩
  refine G.app ?_
  repeat (first | refine xst ?_ | refine xar ?_ | refine xop ?_ | refine xlen ?_ | refine xld rfl ?_ | refine xsto rfl ?_ | refine xno ?_ | refine xt ?_ | refine xf ?_ | refine xnu ?_)
  refine xbsl fun b1 => ?_
  refine xslc 0 3 2 (sgsV bdA) rfl rfl rfl ?_
  repeat (first | refine xst ?_ | refine xar ?_ | refine xop ?_ | refine xlen ?_ | refine xld rfl ?_ | refine xsto rfl ?_ | refine xno ?_ | refine xt ?_ | refine xf ?_ | refine xnu ?_)
  refine xbsl fun b2 => ?_
  refine xslc 0 2 2 (fmsV (grA (some ⟨b1, 0, none⟩) (some ⟨b2, 0, none⟩)).fs) rfl rfl rfl ?_
  repeat (first | refine xst ?_ | refine xar ?_ | refine xop ?_ | refine xlen ?_ | refine xld rfl ?_ | refine xsto rfl ?_ | refine xno ?_ | refine xt ?_ | refine xf ?_ | refine xnu ?_)
  refine xnew fun p1 => ?_
  repeat (first | refine xst ?_ | refine xar ?_ | refine xop ?_ | refine xlen ?_ | refine xld rfl ?_ | refine xsto rfl ?_ | refine xno ?_ | refine xt ?_ | refine xf ?_ | refine xnu ?_)
  refine xrep 0 (grA (some ⟨b1, 0, none⟩) (some ⟨b2, 0, none⟩)).v rfl rfl ?_
  repeat (first | refine xst ?_ | refine xar ?_ | refine xop ?_ | refine xlen ?_ | refine xld rfl ?_ | refine xsto rfl ?_ | refine xno ?_ | refine xt ?_ | refine xf ?_ | refine xnu ?_)
  refine xcall (bytes9_spec 97) ?_
  rintro v H ⟨rfl, rfl⟩
  refine G.app ?_
  repeat (first | refine xst ?_ | refine xar ?_ | refine xop ?_ | refine xlen ?_ | refine xld rfl ?_ | refine xsto rfl ?_ | refine xno ?_ | refine xt ?_ | refine xf ?_ | refine xnu ?_)
  refine xbsl fun b3 => ?_
  refine xslc 0 3 2 (sgsV bdB) rfl rfl rfl ?_
  repeat (first | refine xst ?_ | refine xar ?_ | refine xop ?_ | refine xlen ?_ | refine xld rfl ?_ | refine xsto rfl ?_ | refine xno ?_ | refine xt ?_ | refine xf ?_ | refine xnu ?_)
  refine xbsl fun b4 => ?_
  refine xslc 0 2 2 (fmsV (grB (some ⟨b3, 0, none⟩) (some ⟨b4, 0, none⟩)).fs) rfl rfl rfl ?_
  repeat (first | refine xst ?_ | refine xar ?_ | refine xop ?_ | refine xlen ?_ | refine xld rfl ?_ | refine xsto rfl ?_ | refine xno ?_ | refine xt ?_ | refine xf ?_ | refine xnu ?_)
  refine xnew fun p2 => ?_
  repeat (first | refine xst ?_ | refine xar ?_ | refine xop ?_ | refine xlen ?_ | refine xld rfl ?_ | refine xsto rfl ?_ | refine xno ?_ | refine xt ?_ | refine xf ?_ | refine xnu ?_)
  refine xrep 0 (grB (some ⟨b3, 0, none⟩) (some ⟨b4, 0, none⟩)).v rfl rfl ?_
  repeat (first | refine xst ?_ | refine xar ?_ | refine xop ?_ | refine xlen ?_ | refine xld rfl ?_ | refine xsto rfl ?_ | refine xno ?_ | refine xt ?_ | refine xf ?_ | refine xnu ?_)
  refine xbsl fun b5 => ?_
  refine xcv ?_
  refine xslc 0 1 3 (bsV [97, 97, 97]) rfl rfl rfl ?_
  refine xcall (match_spec (grA (some ⟨b1, 0, none⟩) (some ⟨b2, 0, none⟩)) (by show 2 ≤ 1000000; omega) (blA _ _) (some ⟨b5, 0, none⟩) 3 3 [97, 97, 97] rfl (by omega)) ?_
  rintro v H ⟨F, l, hR, hm, rfl⟩
  obtain rfl := matchA (matA _ _) hR hm
  clear hR hm F l
  refine G.app ?_
  repeat (first | refine xst ?_ | refine xar ?_ | refine xop ?_ | refine xlen ?_ | refine xld rfl ?_ | refine xsto rfl ?_ | refine xno ?_ | refine xt ?_ | refine xf ?_ | refine xnu ?_)
  refine xbsl fun b6 => ?_
  refine xcv ?_
  refine xslc 0 1 3 (bsV [97, 97, 98]) rfl rfl rfl ?_
  refine xcall (match_spec (grA (some ⟨b1, 0, none⟩) (some ⟨b2, 0, none⟩)) (by show 2 ≤ 1000000; omega) (blA _ _) (some ⟨b6, 0, none⟩) 3 3 [97, 97, 98] rfl (by omega)) ?_
  rintro v H ⟨F, l, hR, hm, rfl⟩
  obtain rfl := matchA (matB _ _) hR hm
  clear hR hm F l
  refine G.app ?_
  repeat (first | refine xst ?_ | refine xar ?_ | refine xop ?_ | refine xlen ?_ | refine xld rfl ?_ | refine xsto rfl ?_ | refine xno ?_ | refine xt ?_ | refine xf ?_ | refine xnu ?_)
  refine xcall (gcheck_spec (grA (some ⟨b1, 0, none⟩) (some ⟨b2, 0, none⟩)) (by show 2 ≤ 1000000; omega) (blA _ _)) ?_
  rintro e H ⟨F, l, hR, he, rfl⟩
  obtain ⟨rfl, rfl⟩ := hR.det (fitA _ _)
  refine G.app ?_
  refine G.fact (chain [] e) (P := e = .nilIface) (fun w F h => h) fun h => ?_
  subst h
  repeat (first | refine xst ?_ | refine xar ?_ | refine xop ?_ | refine xlen ?_ | refine xld rfl ?_ | refine xsto rfl ?_ | refine xno ?_ | refine xt ?_ | refine xf ?_ | refine xnu ?_)
  refine xcall (gcheck_spec (grB (some ⟨b3, 0, none⟩) (some ⟨b4, 0, none⟩)) (by show 2 ≤ 1000000; omega) (blB _ _)) ?_
  rintro e H ⟨F, l, hR, he, rfl⟩
  obtain ⟨rfl, rfl⟩ := hR.det (fitB _ _)
  refine G.app ?_
  repeat (first | refine xst ?_ | refine xar ?_ | refine xop ?_ | refine xlen ?_ | refine xld rfl ?_ | refine xsto rfl ?_ | refine xno ?_ | refine xt ?_ | refine xf ?_ | refine xnu ?_)
  refine xcall (text_spec 91 0 e (by decide) (by decide)) ?_
  rintro v H ⟨rfl, rfl⟩
  refine G.app ?_
  refine xseq true rfl (by decide) ?_
  repeat (first | refine xst ?_ | refine xar ?_ | refine xop ?_ | refine xlen ?_ | refine xld rfl ?_ | refine xsto rfl ?_ | refine xno ?_ | refine xt ?_ | refine xf ?_ | refine xnu ?_)
  exact xret [] ⟨rfl, rfl⟩

class Fact' (P : Prop) : Prop where
  out : P

/-! ## GramBegins -/
instance rdF {fn : Func} {rd : List HProp} {post : Post} (C : Ctx pg fn rd post) (H : List HProp) (g' : Gr) (R : List HProp) [h1 : Rem H (sl 2 g'.a g'.fs.length g'.cap (fmsV g'.fs)) R] [h2 : Fact' (∀ f ∈ g'.fs, RS C 3 f.a f.body.length f.cap (sgsV f.body))] : RdAll C H g'.rd :=
  rdAll_gr (RdOk.slo C H 2 _ _ _ _ R) fun f hf => RdOk.rs' (h2.out f hf)

theorem few9_len (fs : List Fm) : (few9 fs).length ≤ 50 := by unfold few9; rw [List.length_map, List.length_take]; omega
theorem few9_body {fs : List Fm} {f : Fm} (hf : f ∈ few9 fs) : f.body.length ≤ 9 := by
  obtain ⟨f', _, rfl⟩ := List.mem_map.1 hf
  show (f'.body.take 9).length ≤ 9
  rw [List.length_take]; omega
set_option maxRecDepth 20000 in
theorem begins_spec (g : Gr) (a : Option Addr) (n cap : Nat) (bs : List UInt8) (hn : n = bs.length) (hc : n ≤ cap) : Fun Tryd.prog 3 [.agg g.v.toArray, .slice a n cap] (gErr :: slR 1 a n cap (bsV bs) :: g.rd) [] fun v H => v = .bool true ∧ H = [] := by
  refine xenter (p := pg) Tryd.call3 Tryd.func3 fun C => ?_
  haveI : RP C gErr := RP.of C (by simp)
  haveI hbs := RP.slR (RP.of C (X := slR 1 a n cap (bsV bs)) (by simp))
  haveI hrd : ∀ H, RdAll C H g.rd := fun H => ⟨fun r hr => by haveI := RP.of C (List.mem_cons_of_mem _ (List.mem_cons_of_mem _ hr)); infer_instance⟩
  haveI hfr : Fact' (∀ f ∈ few9 g.fs, RS C 3 f.a f.body.length f.cap (sgsV f.body)) := ⟨fun f hf => by
    obtain ⟨f', hf', rfl⟩ := List.mem_map.1 hf
    exact RS.cut9 (RP.slR (RP.of C (List.mem_cons_of_mem _ (List.mem_cons_of_mem _ (fm_rd g (List.mem_of_mem_take hf'))))))⟩
  obtain ⟨ss, hss⟩ : ∃ ss, bs.take 100 = ss := ⟨_, rfl⟩
  have hsl : ss.length = min n 100 := by rw [← hss, List.length_take, ← hn, Nat.min_comm]
  haveI hsr : RS C 1 a ss.length cap (bsV ss) := by
    have := RS.headN hbs (m := ss.length) (by omega)
    rw [Nat.mul_one, bsV_take, hsl] at this
    rw [hsl, ← hss]
    have e : bs.take (min n 100) = bs.take 100 := by
      rcases Nat.le_total n 100 with h | h
      · rw [Nat.min_eq_left h, List.take_of_length_le (by omega), List.take_of_length_le (by omega)]
      · rw [Nat.min_eq_right h]
    rw [e] at this
    exact this
  refine xst ?_
  refine xst ?_
  refine xnew fun gb => ?_
  refine xrep 0 g.v rfl rfl ?_
  repeat (first | refine xst ?_ | refine xar ?_ | refine xop ?_ | refine xlen ?_ | refine xld rfl ?_ | refine xsto rfl ?_ | refine xno ?_ | refine xt ?_ | refine xf ?_ | refine xnu ?_)
  refine xcall (gfew_spec g) ?_
  rintro v H ⟨a', cap', rfl, rfl⟩
  refine G.app ?_
  obtain ⟨g', hg'⟩ : ∃ g' : Gr, g' = ⟨g.names, a', cap', few9 g.fs⟩ := ⟨_, rfl⟩
  have hgf : g'.fs = few9 g.fs := by rw [hg']
  haveI : Fact' (∀ f ∈ g'.fs, RS C 3 f.a f.body.length f.cap (sgsV f.body)) := by rw [hgf]; exact hfr
  have hlen : g'.fs.length ≤ 1000000 := by have := few9_len g.fs; rw [hgf]; omega
  have hbl : ∀ f ∈ g'.fs, f.body.length ≤ 1000000 := fun f hf => by rw [hgf] at hf; have := few9_body hf; omega
  refine xE 11 (.agg g'.v.toArray) rfl (by rw [hg']) ?_
  refine xreH 0 (sl 2 g'.a g'.fs.length g'.cap (fmsV g'.fs)) rfl (by rw [hg']) ?_
  clear hgf hfr hg' hrd
  repeat (first | refine xst ?_ | refine xar ?_ | refine xop ?_ | refine xlen ?_ | refine xld rfl ?_ | refine xsto rfl ?_ | refine xno ?_ | refine xt ?_ | refine xf ?_ | refine xnu ?_)
  refine xcall (gshort_spec a n cap hc 100) ?_
  rintro v H ⟨rfl, rfl⟩
  refine G.app ?_
  refine xE 13 (.slice a ss.length cap) rfl (by rw [hsl]) ?_
  refine xsto rfl ?_
  refine xrep 1 g'.v rfl rfl ?_
  repeat (first | refine xst ?_ | refine xar ?_ | refine xop ?_ | refine xlen ?_ | refine xld rfl ?_ | refine xsto rfl ?_ | refine xno ?_ | refine xt ?_ | refine xf ?_ | refine xnu ?_)
  refine xcall (match_spec g' hlen hbl a ss.length cap ss rfl (by omega)) ?_
  rintro v H ⟨F, l, hR, hm1, rfl⟩
  refine G.app ?_
  refine G.cut (σ := Int × Int) (fun s => [(1, .slice a ss.length cap), (2, .pointer (some ⟨gb, 0, none⟩)), (5, .int .i64 s.1), (6, .int .i64 s.2)]) (fun _ => [pts gb g'.v, sl 2 g'.a g'.fs.length g'.cap (fmsV g'.fs)])
    (fun s => matchR g' ss F l (.tuple #[.int .i64 s.1, .int .i64 s.2])) ?_ ?_
  · rcases hm1 with ⟨h1, rfl⟩ | ⟨h1, k, r, h2, rfl⟩
    · repeat (first | refine xst ?_ | refine xar ?_ | refine xop ?_ | refine xlen ?_ | refine xld rfl ?_ | refine xsto rfl ?_ | refine xno ?_ | refine xt ?_ | refine xf ?_ | refine xnu ?_)
      exact G.fin (0, 3) (.inl ⟨h1, rfl⟩) ⟨rfl, rfl, rfl, rfl, trivial⟩ ent_pick
    · repeat (first | refine xst ?_ | refine xar ?_ | refine xop ?_ | refine xlen ?_ | refine xld rfl ?_ | refine xsto rfl ?_ | refine xno ?_ | refine xt ?_ | refine xf ?_ | refine xnu ?_)
      exact G.fin (r, 0) (.inr ⟨h1, k, r, h2, rfl⟩) ⟨rfl, rfl, rfl, rfl, trivial⟩ ent_pick
  rintro ⟨n1, e1⟩ hm1
  have hm1 : matchR g' ss F l (.tuple #[.int .i64 n1, .int .i64 e1]) := hm1
  show G C _ [(1, .slice a ss.length cap), (2, .pointer (some ⟨gb, 0, none⟩)), (5, .int .i64 n1), (6, .int .i64 e1)] [pts gb g'.v, sl 2 g'.a g'.fs.length g'.cap (fmsV g'.fs)]
  repeat (first | refine xst ?_ | refine xar ?_ | refine xop ?_ | refine xlen ?_ | refine xld rfl ?_ | refine xsto rfl ?_ | refine xno ?_ | refine xt ?_ | refine xf ?_ | refine xnu ?_)
  refine xcall (match_spec g' hlen hbl none 0 0 [] rfl (by omega)) ?_
  rintro v H ⟨F', l', hR', hm2, rfl⟩
  obtain ⟨rfl, rfl⟩ := hR.det hR'
  clear hR'
  refine G.app ?_
  have pair : ∀ {x y x' y' : Int}, (Value.tuple #[.int .i64 x, .int .i64 y]) = .tuple #[.int .i64 x', .int .i64 y'] → x = x' ∧ y = y' := fun h => by simpa using h
  rcases hm1 with ⟨hl, hv⟩ | ⟨hl, k, r, hk, hv⟩
  · obtain ⟨rfl, rfl⟩ := pair hv
    rcases hm2 with ⟨_, rfl⟩ | ⟨h, _⟩
    · repeat (first | refine xst ?_ | refine xar ?_ | refine xop ?_ | refine xlen ?_ | refine xld rfl ?_ | refine xsto rfl ?_ | refine xno ?_ | refine xt ?_ | refine xf ?_ | refine xnu ?_)
      refine xcall awake9_spec ?_
      rintro v H ⟨rfl, rfl⟩
      refine G.app ?_
      repeat (first | refine xst ?_ | refine xar ?_ | refine xop ?_ | refine xlen ?_ | refine xld rfl ?_ | refine xsto rfl ?_ | refine xno ?_ | refine xt ?_ | refine xf ?_ | refine xnu ?_)
      exact xret [] ⟨rfl, rfl⟩
    · exact absurd h hl
  · obtain ⟨rfl, rfl⟩ := pair hv
    rcases hm2 with ⟨h, _⟩ | ⟨_, k2, r2, hk2, rfl⟩
    · exact absurd hl h
    subst hl
    have hfit := hR.fit
    obtain ⟨hsh, hS⟩ := hR.shape
    have h1n := (shapeF_nil hsh).1
    repeat (first | refine xst ?_ | refine xar ?_ | refine xop ?_ | refine xlen ?_ | refine xld rfl ?_ | refine xsto rfl ?_ | refine xno ?_ | refine xt ?_ | refine xf ?_ | refine xnu ?_)
    refine xcall (vanishesN_spec g' hlen hsh 0 (by omega)) ?_
    rintro v H ⟨F2, hS2, rfl, rfl⟩
    obtain rfl := hS2.det hS
    clear hS2
    refine G.app ?_
    refine G.cut (σ := Unit) (fun _ => [(1, .slice a ss.length cap), (2, .pointer (some ⟨gb, 0, none⟩)), (5, .int .i64 n1), (6, .int .i64 0), (45, .bool false)]) (fun _ => [pts gb g'.v, sl 2 g'.a g'.fs.length g'.cap (fmsV g'.fs)]) (fun _ => True) ?_ ?_
    · rcases empties (by rfl) hk2 with rfl | ⟨rfl, hnl⟩ | ⟨rfl, hnl⟩
      · cases hnl : F2.nl 0 with
        | true =>
          repeat (first | refine xst ?_ | refine xar ?_ | refine xop ?_ | refine xlen ?_ | refine xld rfl ?_ | refine xsto rfl ?_ | refine xno ?_ | refine xt ?_ | refine xf ?_ | refine xnu ?_)
          exact G.fin () trivial ⟨rfl, rfl, rfl, rfl, rfl, trivial⟩ ent_pick
        | false =>
          repeat (first | refine xst ?_ | refine xar ?_ | refine xop ?_ | refine xlen ?_ | refine xld rfl ?_ | refine xsto rfl ?_ | refine xno ?_ | refine xt ?_ | refine xf ?_ | refine xnu ?_)
          exact G.fin () trivial ⟨rfl, rfl, rfl, rfl, rfl, trivial⟩ ent_pick
      · rw [hnl]
        repeat (first | refine xst ?_ | refine xar ?_ | refine xop ?_ | refine xlen ?_ | refine xld rfl ?_ | refine xsto rfl ?_ | refine xno ?_ | refine xt ?_ | refine xf ?_ | refine xnu ?_)
        exact G.fin () trivial ⟨rfl, rfl, rfl, rfl, rfl, trivial⟩ ent_pick
      · rw [hnl]
        repeat (first | refine xst ?_ | refine xar ?_ | refine xop ?_ | refine xlen ?_ | refine xld rfl ?_ | refine xsto rfl ?_ | refine xno ?_ | refine xt ?_ | refine xf ?_ | refine xnu ?_)
        exact G.fin () trivial ⟨rfl, rfl, rfl, rfl, rfl, trivial⟩ ent_pick
    rintro _ _
    show G C _ [(1, .slice a ss.length cap), (2, .pointer (some ⟨gb, 0, none⟩)), (5, .int .i64 n1), (6, .int .i64 0), (45, .bool false)] [pts gb g'.v, sl 2 g'.a g'.fs.length g'.cap (fmsV g'.fs)]
    repeat (first | refine xst ?_ | refine xar ?_ | refine xop ?_ | refine xlen ?_ | refine xld rfl ?_ | refine xsto rfl ?_ | refine xno ?_ | refine xt ?_ | refine xf ?_ | refine xnu ?_)
    refine xcall (firstN_spec g' hlen hsh 0 (by omega)) ?_
    rintro v H ⟨F3, hS3, rfl, rfl⟩
    obtain rfl := hS3.det hS
    clear hS3
    refine G.app ?_
    obtain ⟨fl, hfl⟩ : ∃ l, flagsV (F3.fi 0) = l := ⟨_, rfl⟩
    have hln : fl.length = 256 := by rw [← hfl]; exact bitsV_len _ _
    have hone : ∀ v ∈ fl, v.oneCell' = true := by rw [← hfl]; exact flagsV_one _
    refine xE 47 (.agg fl.toArray) rfl (by rw [hfl]) ?_
    refine xnew fun b9 => ?_
    refine xsta (cs := fl) rfl hln hone fl (put_all (by rw [hln]; rfl)) (by rw [hln]; exact Nat.le_of_ble_eq_true rfl) ?_
    repeat (refine xnot 48 ?_; first | refine xst ?_ | refine xar ?_ | refine xop ?_ | refine xlen ?_ | refine xld rfl ?_ | refine xsto rfl ?_ | refine xno ?_ | refine xt ?_ | refine xf ?_ | refine xnu ?_)
    rcases mGo_range hk with rfl | rfl | rfl
    · repeat (first | refine xst ?_ | refine xar ?_ | refine xop ?_ | refine xlen ?_ | refine xld rfl ?_ | refine xsto rfl ?_ | refine xno ?_ | refine xt ?_ | refine xf ?_ | refine xnu ?_)
      refine xcall awake9_spec ?_
      rintro v H ⟨rfl, rfl⟩
      refine G.app ?_
      repeat (first | refine xst ?_ | refine xar ?_ | refine xop ?_ | refine xlen ?_ | refine xld rfl ?_ | refine xsto rfl ?_ | refine xno ?_ | refine xt ?_ | refine xf ?_ | refine xnu ?_)
      exact xret [] ⟨rfl, rfl⟩
    · cases hss' : ss with
      | nil =>
        repeat (first | refine xst ?_ | refine xar ?_ | refine xop ?_ | refine xlen ?_ | refine xld rfl ?_ | refine xsto rfl ?_ | refine xno ?_ | refine xt ?_ | refine xf ?_ | refine xnu ?_)
        refine xcall awake9_spec ?_
        rintro v H ⟨rfl, rfl⟩
        refine G.app ?_
        repeat (first | refine xst ?_ | refine xar ?_ | refine xop ?_ | refine xlen ?_ | refine xld rfl ?_ | refine xsto rfl ?_ | refine xno ?_ | refine xt ?_ | refine xf ?_ | refine xnu ?_)
        exact xret [] ⟨rfl, rfl⟩
      | cons c s =>
        rw [hss'] at hk hsr
        have hb := hfit.begins (t := ⟨0, 0, 0⟩) rfl hk
        have hc := c.toNat_lt
        obtain ⟨sb, so, rfl, hsb⟩ := hsr.some (Nat.zero_lt_succ _)
        haveI := hsb
        have hget : fl[c.toNat]? = some (.bool true) := by rw [← hfl, flagsV_get _ hc, hb]
        repeat (refine xnot 53 ?_; first | refine xst ?_ | refine xar ?_ | refine xop ?_ | refine xlen ?_ | refine xld rfl ?_ | refine xsto rfl ?_ | refine xno ?_ | refine xt ?_ | refine xf ?_ | refine xnu ?_)
        refine xE 53 (.bool false) rfl (congrArg Value.bool (decide_eq_false (by simp only [List.length_cons]; omega))) ?_
        repeat (first | refine xst ?_ | refine xar ?_ | refine xop ?_ | refine xlen ?_ | refine xld rfl ?_ | refine xsto rfl ?_ | refine xno ?_ | refine xt ?_ | refine xf ?_ | refine xnu ?_)
        refine xix ?_ (hk := Nat.zero_lt_succ _)
        refine xldl rfl 0 rfl ?_
        repeat (first | refine xst ?_ | refine xar ?_ | refine xop ?_ | refine xlen ?_ | refine xld rfl ?_ | refine xsto rfl ?_ | refine xno ?_ | refine xt ?_ | refine xf ?_ | refine xnu ?_)
        refine xix ?_ (hk := hc)
        refine xEp 59 c.toNat rfl (by show 0 + c.toNat = c.toNat; omega) ?_
        refine xld rfl ?_ (hv := hget)
        repeat (first | refine xst ?_ | refine xar ?_ | refine xop ?_ | refine xlen ?_ | refine xld rfl ?_ | refine xsto rfl ?_ | refine xno ?_ | refine xt ?_ | refine xf ?_ | refine xnu ?_)
        refine xcall awake9_spec ?_
        rintro v H ⟨rfl, rfl⟩
        refine G.app ?_
        repeat (first | refine xst ?_ | refine xar ?_ | refine xop ?_ | refine xlen ?_ | refine xld rfl ?_ | refine xsto rfl ?_ | refine xno ?_ | refine xt ?_ | refine xf ?_ | refine xnu ?_)
        exact xret [] ⟨rfl, rfl⟩
    · repeat (first | refine xst ?_ | refine xar ?_ | refine xop ?_ | refine xlen ?_ | refine xld rfl ?_ | refine xsto rfl ?_ | refine xno ?_ | refine xt ?_ | refine xf ?_ | refine xnu ?_)
      refine xcall awake9_spec ?_
      rintro v H ⟨rfl, rfl⟩
      refine G.app ?_
      repeat (first | refine xst ?_ | refine xar ?_ | refine xop ?_ | refine xlen ?_ | refine xld rfl ?_ | refine xsto rfl ?_ | refine xno ?_ | refine xt ?_ | refine xf ?_ | refine xnu ?_)
      exact xret [] ⟨rfl, rfl⟩
end Go.Proofs.YthlaacnjgdmakaaDoor

/- nacellelaw19: few; two manifests compared. -/
namespace Go.Proofs.YthlaacnjgdmakaaDoor
open Go.W

theorem subA_zero (a : Option Addr) (sz cap : Nat) : subA a 0 sz cap = a := by
  unfold subA
  split
  · rfl
  · cases a with
    | none => rfl
    | some a => simp [Addr.add]
theorem RS.headB {fn : Func} {rd : List HProp} {post : Post} {C : Ctx pg fn rd post} {a : Option Addr} {n cap : Nat} {bs : List UInt8} (h : RS C 1 a n cap (bsV bs)) {m : Nat} (hm : m ≤ n) : RS C 1 a m cap (bsV (bs.take m)) := by
  have := RS.subB h (Nat.zero_le m) hm
  rw [subA_zero] at this
  simpa using this

theorem few_spec (a : Option Addr) (n cap : Nat) (hc : n ≤ cap) (k : Nat) : Fun Tryd.prog 15 [.slice a n cap, .int .i64 k] [] [] fun v H => v = .slice a (min n k) cap ∧ H = [] := by
  refine xenter (p := pg) Tryd.call15 Tryd.func15 fun C => ?_
  repeat (first | refine xst ?_ | refine xar ?_ | refine xop ?_ | refine xlen ?_ | refine xld rfl ?_ | refine xsto rfl ?_ | refine xno ?_ | refine xt ?_ | refine xf ?_)
  refine xd (fun h => ?_) (fun h => ?_)
  · repeat (first | refine xst ?_ | refine xar ?_ | refine xop ?_ | refine xlen ?_ | refine xld rfl ?_ | refine xsto rfl ?_ | refine xno ?_ | refine xt ?_ | refine xf ?_)
    refine xslice 0 k rfl rfl rfl (by omega) (by omega) ?_
    refine xE 11 (.slice a k cap) rfl ?_ ?_
    · rw [subA_zero]; rfl
    repeat (first | refine xst ?_ | refine xar ?_ | refine xop ?_ | refine xlen ?_ | refine xld rfl ?_ | refine xsto rfl ?_ | refine xno ?_ | refine xt ?_ | refine xf ?_)
    refine xret [] ⟨?_, rfl⟩
    rw [Nat.min_eq_right (by omega)]; rfl
  · repeat (first | refine xst ?_ | refine xar ?_ | refine xop ?_ | refine xlen ?_ | refine xld rfl ?_ | refine xsto rfl ?_ | refine xno ?_ | refine xt ?_ | refine xf ?_)
    refine xret [] ⟨?_, rfl⟩
    rw [Nat.min_eq_left (by omega)]; rfl

theorem eq_man : EqK pg 39 ty39 :=
  ⟨EqT.str (d := 9999) ok39 rfl (by kernel_rfl) (by kernel_rfl) ⟨rfl, _, ok3, .inr rfl, EqT.int ok3 rfl rfl 9998, by decide, rfl, _, ok36, .inr rfl, EqT.int ok36 rfl rfl 9998, by decide, rfl, _, ok3, .inr rfl, EqT.int ok3 rfl rfl 9998, by decide, rfl, _, ok37, .inl rfl, EqT.arr (j := ty5) ok37 rfl ok5 rfl (.inr rfl) (EqT.int ok5 rfl rfl 9997), by decide, rfl⟩, rfl, by kernel_rfl⟩
theorem sameMan {m m' : Man} (h : m.sum.length = 32) (h' : m'.sum.length = 32) : SameK m.v m'.v :=
  ⟨⟨_, _, _, rfl, rfl⟩, ⟨_, _, _, rfl, rfl⟩, ⟨_, _, _, rfl, rfl⟩, SameK.bsV (h.trans h'.symm)⟩
theorem wV_inj {x y : UInt32} (h : wV x = wV y) : x = y := by
  unfold wV at h
  simp only [Value.int.injEq, true_and] at h
  exact UInt32.toNat_inj.1 (Int.ofNat.inj h)
theorem Man.v_inj {m m' : Man} (h : m.v = m'.v) : m = m' := by
  obtain ⟨a, b, c, d⟩ := m
  obtain ⟨a', b', c', d'⟩ := m'
  simp only [Man.v, List.cons.injEq, Value.int.injEq, true_and] at h
  obtain ⟨h1, h2, h3, h4⟩ := h
  rw [h1, wV_inj h2, h3, bsV_inj h4]
instance : DecidableEq Man := fun m m' => by
  obtain ⟨a, b, c, d⟩ := m
  obtain ⟨a', b', c', d'⟩ := m'
  exact decidable_of_iff (a = a' ∧ b = b' ∧ c = c' ∧ d = d') (by simp)
theorem eqIV_man {m m' : Man} (h : m.sum.length = 32) (h' : m'.sum.length = 32) : eqIV m.v m'.v = decide (m = m') := by
  have := eqIV_iff (sameMan h h')
  by_cases e : m = m'
  · subst e; rw [decide_eq_true rfl]; exact this.2 rfl
  · rw [decide_eq_false e]
    cases hb : eqIV m.v m'.v with
    | false => rfl
    | true => exact absurd (Man.v_inj (this.1 hb)) e

theorem progF_nil {m : Man} {bs : List UInt8} (h : progF m bs = []) : m.ok = true ∧ m.size = bs.length ∧ m.sum = shaF bs ∧ decF bs = [] := by
  unfold progF at h
  split at h
  · simp at h
  · rename_i h1
    split at h
    · simp at h
    · split at h
      · simp at h
      · split at h
        · simp at h
        · rename_i h2 h3 h4
          refine ⟨by simpa using h1, by omega, by simpa using (Classical.not_not.1 h4).symm, ?_⟩
          cases hd : decF bs with
          | nil => rfl
          | cons q r => rw [hd] at h; simp [inF] at h
theorem decF_nil {bs : List UInt8} (h : decF bs = []) : bs.length % 4 = 0 ∧ ckF (listI bs) = [] := by
  unfold decF at h
  split at h
  · simp at h
  · rename_i h1
    refine ⟨by omega, ?_⟩
    cases hc : ckF (listI bs) with
    | nil => rfl
    | cons q r => obtain ⟨c, x⟩ := q; rw [hc] at h; simp at h
end Go.Proofs.YthlaacnjgdmakaaDoor

/- The closing, what all statements of this seat share: the listed variables; manifests and stagings that come in. -/
namespace Go.Proofs.YthlaacnjgdmakaaDoor
open Go.W Go.ChangeShapes Go.WideShapes Go.ChangeAt Go.RowKit

theorem own : ownKnob Tryd.prog.godebug = none := by kernel_rfl
theorem kids : Kids Tryd.prog (· < Tryd.prog.types.size) := kids_rows (by kernel_rfl) (by kernel_rfl)
theorem full : ∀ t e, t < Tryd.prog.types.size → Tryd.prog.underlying t = some (.slice e) → 0 < Tryd.prog.cellsOf e := slices_full_of _ (by kernel_rfl)

theorem et : Tryd.prog.globalNamed "errors.errorType" = some 2 := by kernel_rfl
theorem rt : (Tryd.prog.cutTypes.find? (·.1 == "internal/reflectlite.rtype")).map (·.2) = some 188 := by kernel_rfl
theorem tsize : Tryd.prog.types.size = 238 := by kernel_rfl
theorem oneRow : ((List.range 238).filter fun t => Tryd.prog.rowNamed t [101, 114, 114, 111, 114]) = [54] := by kernel_rfl
theorem handle_of {W : World} {l : List (String × DataW Unit)} (h : handlesMet Tryd.prog (("errors.errorType", Rows.laid_errors_errorType) :: l) W) : blkAt W 2 [.iface 188 (.agg #[.pointer (some ⟨7, 54, none⟩)])] := by
  obtain ⟨name, u, ty, e1, e2, e3, e4, e5⟩ := h _ List.mem_cons_self
  have en : name = [101, 114, 114, 111, 114] := (Option.some.inj e1).symm
  subst en
  obtain rfl := Option.some.inj (rt.symm.trans e2)
  have hm : ty ∈ (List.range 238).filter fun t => Tryd.prog.rowNamed t [101, 114, 114, 111, 114] := List.mem_filter.2 ⟨List.mem_range.2 (by rw [← tsize]; exact e3), e4⟩
  rw [oneRow] at hm
  obtain rfl := List.mem_singleton.1 hm
  have hh : typeHandle Tryd.prog 54 = .pointer (some ⟨7, 54, none⟩) := by kernel_rfl
  rw [hh] at e5
  exact blk_of_var et e5

theorem gK : Tryd.prog.globalNamed "nacelle/sha.constants" = some 3 := by kernel_rfl
theorem gKt : (Tryd.prog.globals[3]?).map (·.type) = some 184 := by kernel_rfl
theorem cK : Tryd.prog.cellsOf 184 = 64 := by kernel_rfl
theorem gI : Tryd.prog.globalNamed "nacelle/sha.initial" = some 1 := by kernel_rfl
theorem gIt : (Tryd.prog.globals[1]?).map (·.type) = some 139 := by kernel_rfl
theorem cI : Tryd.prog.cellsOf 139 = 8 := by kernel_rfl
theorem cW : Tryd.prog.cellsOf 36 = 1 := by kernel_rfl
theorem wsV_of (l : List UInt32) : (l.map fun x => (x.toNat : Int)).map (fun z => Value.int .u32 z) = wsV l := by simp [wsV, wV]

/-- The list of the statements on images. -/
def shaLaid : List (String × DataW Unit) := [("math/bits.deBruijn32tab", Rows.laid_math_bits_deBruijn32tab), ("math/bits.deBruijn64tab", Rows.laid_math_bits_deBruijn64tab), ("internal/strconv.uint64pow10", Rows.laid_internal_strconv_uint64pow10), ("nacelle/sha.initial", Rows.laid_nacelle_sha_initial),
  ("nacelle/sha.constants", Rows.laid_nacelle_sha_constants), ("errors.errorType", Rows.laid_errors_errorType)]
theorem laid_facts {W : World} (h : laidMetH Tryd.prog shaLaid W) : blkAt W 2 [.iface 188 (.agg #[.pointer (some ⟨7, 54, none⟩)])] ∧ blkAt W 3 (wsV kL) ∧ blkAt W 1 (wsV iniS.l) := by
  have h' : laidMet Tryd.prog [("math/bits.deBruijn32tab", Rows.laid_math_bits_deBruijn32tab), ("math/bits.deBruijn64tab", Rows.laid_math_bits_deBruijn64tab), ("internal/strconv.uint64pow10", Rows.laid_internal_strconv_uint64pow10), ("nacelle/sha.initial", Rows.laid_nacelle_sha_initial),
    ("nacelle/sha.constants", Rows.laid_nacelle_sha_constants)] W ∧ handlesMet Tryd.prog [("errors.errorType", Rows.laid_errors_errorType)] W := h
  refine ⟨handle_of h'.2, ?_, ?_⟩
  · rw [← wsV_of]
    exact laid_tab h'.1 4 (zs := kL.map fun x => (x.toNat : Int)) rfl gK gKt Tryd.underlying184 Tryd.underlying36 cW cK
  · rw [← wsV_of]
    exact laid_tab h'.1 3 (zs := iniS.l.map fun x => (x.toNat : Int)) rfl gI gIt Tryd.underlying139 Tryd.underlying36 cW cI

/-- A world for the witnesses: the settled one, the listed variables as they are laid. -/
noncomputable def laidWorld (os : Os) : World :=
  let w0 := World.holding Tryd.prog os ⟨#[], #[], []⟩
  let put (g : Nat) (l : List Value) (h : Array Obj) : Array Obj := h.modify g fun
      | .cells _ t frozen => .cells l.toArray t frozen
      | o => o
  { w0 with heap := put 2 [.iface 188 (.agg #[.pointer (some ⟨7, 54, none⟩)])] (put 3 (wsV kL) (put 1 (wsV iniS.l)
      (put 4 [.int .u64 1, .int .u64 10, .int .u64 100, .int .u64 1000, .int .u64 10000, .int .u64 100000, .int .u64 1000000, .int .u64 10000000, .int .u64 100000000, .int .u64 1000000000, .int .u64 10000000000, .int .u64 100000000000, .int .u64 1000000000000, .int .u64 10000000000000, .int .u64 100000000000000, .int .u64 1000000000000000, .int .u64 10000000000000000, .int .u64 100000000000000000, .int .u64 1000000000000000000, .int .u64 10000000000000000000] (put 5 [.int .u8 0, .int .u8 1, .int .u8 28, .int .u8 2, .int .u8 29, .int .u8 14, .int .u8 24, .int .u8 3, .int .u8 30, .int .u8 22, .int .u8 20, .int .u8 15, .int .u8 25, .int .u8 17, .int .u8 4, .int .u8 8, .int .u8 31, .int .u8 27, .int .u8 13, .int .u8 23, .int .u8 21, .int .u8 19, .int .u8 16, .int .u8 7, .int .u8 26, .int .u8 12, .int .u8 18, .int .u8 6, .int .u8 11, .int .u8 5, .int .u8 10, .int .u8 9] (put 6 [.int .u8 0, .int .u8 1, .int .u8 56, .int .u8 2, .int .u8 57, .int .u8 49, .int .u8 28, .int .u8 3, .int .u8 61, .int .u8 58, .int .u8 42, .int .u8 50, .int .u8 38, .int .u8 29, .int .u8 17, .int .u8 4, .int .u8 62, .int .u8 47, .int .u8 59, .int .u8 36, .int .u8 45, .int .u8 43, .int .u8 51, .int .u8 22, .int .u8 53, .int .u8 39, .int .u8 33, .int .u8 30, .int .u8 24, .int .u8 18, .int .u8 12, .int .u8 5, .int .u8 63, .int .u8 55, .int .u8 48, .int .u8 27, .int .u8 60, .int .u8 41, .int .u8 37, .int .u8 16, .int .u8 46, .int .u8 35, .int .u8 44, .int .u8 21, .int .u8 52, .int .u8 32, .int .u8 23, .int .u8 11, .int .u8 54, .int .u8 26, .int .u8 40, .int .u8 15, .int .u8 34, .int .u8 20, .int .u8 31, .int .u8 10, .int .u8 25, .int .u8 14, .int .u8 19, .int .u8 9, .int .u8 13, .int .u8 8, .int .u8 7, .int .u8 6] w0.heap))))) }

theorem cells_bytes : ∀ {l : List Value}, (∀ k, k < l.length → ∃ n, (l.drop k).take 1 = [.int .u8 n] ∧ (Lit.int .u8 n).wf = true) → ∃ bs : List UInt8, l = bsV bs ∧ bs.length = l.length
  | [], _ => ⟨[], rfl, rfl⟩
  | v :: l, h => by
    obtain ⟨bs, h1, h2⟩ := cells_bytes (l := l) (fun k hk => by
      have := h (k + 1) (by simpa using hk)
      simpa using this)
    obtain ⟨n, h3, h4⟩ := h 0 (by simp)
    simp only [List.drop_zero, List.take_succ_cons, List.take_zero, List.cons.injEq, and_true] at h3
    subst h3
    have hb : 0 ≤ n ∧ n ≤ 255 := by simpa [Lit.wf, IntKind.min, IntKind.max, IntKind.signed, IntKind.bits] using h4
    refine ⟨UInt8.ofNat n.toNat :: bs, ?_, by simp [h2]⟩
    rw [h1]
    show _ = bV (UInt8.ofNat n.toNat) :: bsV bs
    congr 1
    unfold bV
    congr 1
    simp only [UInt8.toNat_ofNat']
    omega

/-- A manifest that comes in. -/
theorem man_of {W : World} {d : Nat} {cs : List Value} (h : Fits tree.look W (d + 3) 39 cs) : ∃ m : Man, m.sum.length = 32 ∧ cs = m.v ∧ (Lit.int .i64 m.part).wf = true ∧ (Lit.int .i64 m.size).wf = true := by
  obtain ⟨hl, hq⟩ := h
  have hl : cs.length = 35 := hl
  have h0 : Fits tree.look W (d + 2) 3 ((cs.drop 0).take 1) := hq (0, 3) (by simp)
  have h1 : Fits tree.look W (d + 2) 36 ((cs.drop 1).take 1) := hq (1, 36) (by simp)
  have h2 : Fits tree.look W (d + 2) 3 ((cs.drop 2).take 1) := hq (2, 3) (by simp)
  have h3 : Fits tree.look W (d + 2) 37 ((cs.drop 3).take 32) := hq (3, 37) (by simp)
  obtain ⟨p, hp, wp⟩ := h0
  obtain ⟨v, hv, wv⟩ := h1
  obtain ⟨z, hz, wz⟩ := h2
  obtain ⟨hl3, h3⟩ := h3
  have h3 : ∀ k, k < 32 → Fits tree.look W (d + 1) 5 ((((cs.drop 3).take 32).drop (k * 1)).take 1) := h3
  obtain ⟨bs, hb, hbl⟩ := cells_bytes (l := (cs.drop 3).take 32) (fun k hk => by
    have := h3 k (by simpa [hl] using hk)
    rw [Nat.mul_one] at this
    exact this)
  have hv2 : 0 ≤ v ∧ v ≤ 4294967295 := by simpa [Lit.wf, IntKind.min, IntKind.max, IntKind.signed, IntKind.bits] using wv
  refine ⟨⟨p, UInt32.ofNat v.toNat, z, bs⟩, by rw [hbl]; simp [hl], ?_, wp, wz⟩
  match cs, hl with
  | c0 :: c1 :: c2 :: r, hl =>
    simp only [List.drop_zero, List.drop_succ_cons, List.take_succ_cons, List.take_zero, List.cons.injEq, and_true] at hp hv hz hb
    have hr : r.take 32 = r := List.take_of_length_le (by simp at hl; omega)
    rw [hr] at hb
    subst hp; subst hv; subst hz; subst hb
    unfold Man.v wV
    congr 2
    congr 1
    simp only [UInt32.toNat_ofNat']
    omega

theorem cells_one {P : Program} {W : World} {base : Nat} {t e : TypeId} {v : Value} (ht : P.underlying t = some (.slice e)) (hv : Value.okWide P W .any base t v) {a : Option Addr} {n cap : Nat} (h : v.cells.toList = [.slice a n cap]) : v = .slice a n cap := by
  cases v with
  | agg l => simp [Value.okWide, ht, Cell.okWide, Cell.ok] at hv
  | _ => simp_all [Value.cells]
/-- Bytes that come in. -/
theorem bytes_of {W : World} {d : Nat} {cs : List Value} (h : Fits tree.look W (d + 2) 25 cs) : ∃ a n cap, ∃ bs : List UInt8, cs = [.slice a n cap] ∧ n = bs.length ∧ n ≤ cap ∧ cap ≤ maxLen ∧ viewR (fun b l => blkAt W b l) 1 a n cap (bsV bs) := by
  obtain ⟨a, n, cap, rfl, hn, hc, h⟩ := h
  obtain ⟨xs, hv, hx⟩ : ∃ xs, viewR (fun b l => blkAt W b l) 1 a n cap xs ∧ ∀ k, k < n → Fits tree.look W (d + 1) 5 ((xs.drop (k * 1)).take 1) := h (Nat.zero_lt_one)
  have hxl : xs.length = n := by have := hv.len.1; omega
  obtain ⟨bs, rfl, hbl⟩ := cells_bytes (l := xs) (fun k hk => by
    have := hx k (by omega)
    rw [Nat.mul_one] at this
    exact this)
  exact ⟨a, n, cap, bs, rfl, by omega, hn, hc, hv⟩
end Go.Proofs.YthlaacnjgdmakaaDoor
