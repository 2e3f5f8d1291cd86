/- Part of the proof: LAw, LLa, LLp, LCl -/
import Derived.Test.YthlaacnjgdmakaaDoorK7
import Derived.Test.YthlaacnjgdmakaaDoorK2
import Derived.Test.YthlaacnjgdmakaaDoorK3
import Derived.Test.YthlaacnjgdmakaaDoorRows
import Derived.Test.YthlaacnjgdmakaaDoorTie
import Derived.Test.YthlaacnjgdmakaaDoorCards
import Derived.LaidHandle
/- nacellelaw19.awake: the chapter's examples are as they should be. -/
namespace Go.Proofs.YthlaacnjgdmakaaDoor
open Go.W

theorem eq_ins : EqK pg 63 ty63 := by
  have h8 : EqT pg.P 9998 5 ty5 := EqT.int ok5 rfl rfl 9997
  exact ⟨EqT.str (d := 9999) ok63 rfl (by kernel_rfl) (by kernel_rfl) ⟨rfl, _, ok5, .inr rfl, EqT.int ok5 rfl rfl 9998, by decide, rfl, _, ok5, .inr rfl, EqT.int ok5 rfl rfl 9998, by decide, rfl, _, ok5, .inr rfl, EqT.int ok5 rfl rfl 9998, by decide, rfl, _, ok5, .inr rfl, EqT.int ok5 rfl rfl 9998, by decide, rfl⟩, rfl, by kernel_rfl⟩

theorem awake_spec : Fun Tryd.prog 24 [] [gErr, kV, iniV] [] fun v H => v = .bool true ∧ H = [] := by
  refine xenter (p := pg) Tryd.call24 Tryd.func24 fun C => ?_
  haveI : RP C gErr := RP.of C (by simp)
  haveI : RP C kV := RP.of C (by simp)
  haveI : RP C iniV := RP.of C (by simp)
  obtain ⟨m, hm⟩ : ∃ m : Man, m = ⟨1, 7, (([0, 0, 0, 0] : List UInt8).length : Int), shaF [0, 0, 0, 0]⟩ := ⟨_, rfl⟩
  have hs : m.sum.length = 32 := by rw [hm]; exact shaF_len _
  have hok : m.ok = true := by rw [hm]; rfl
  have hsz : m.size = 4 := by rw [hm]; rfl
  have hp3 : progF m [0, 0, 0] = [(((2 : Nat) : Int), ((3 : Nat) : Int))] := by
    unfold progF; rw [hok, hsz]; rfl
  have hp4 : progF m [0, 0, 0, 0] = [] := by
    unfold progF; rw [hok, hsz, hm]
    rw [if_neg (by decide), if_neg (by decide), if_neg (by decide), if_neg (by simp)]; rfl
  have henc : ∃ r : List UInt8, encM m = 77 :: 1 :: 7 :: r ∧ r.length = 37 := by
    refine ⟨[0, 0, 0] ++ putB 4 2 ++ m.sum, ?_, by simp [hs, putB]⟩
    unfold encM; rw [if_pos hok, hm]; rfl
  repeat (first | refine xst ?_ | refine xar ?_ | refine xop ?_ | refine xlen ?_ | refine xld rfl ?_ | refine xsto rfl ?_ | refine xno ?_ | refine xt ?_ | refine xf ?_)
  refine xbsl fun b => ?_
  refine xslc 0 1 4 (bsV [0, 0, 0, 0]) rfl rfl rfl ?_
  repeat (first | refine xst ?_ | refine xar ?_ | refine xop ?_ | refine xlen ?_ | refine xld rfl ?_ | refine xsto rfl ?_ | refine xno ?_ | refine xt ?_ | refine xf ?_)
  refine xcall (of_spec 1 7 (some ⟨b, 0, none⟩) 4 4 [0, 0, 0, 0] rfl (by decide)) ?_
  rintro v H ⟨hv, rfl⟩
  rw [← hm] at hv
  subst hv
  refine G.app ?_
  have hml := Man.v_len hs
  have hsl := stgV_len hs
  refine xnew fun b2 => ?_
  refine xsta (cs := m.v) rfl hml m.v_one m.v (put_all (by rw [hml]; rfl)) (by rw [hml]; exact Nat.le_of_ble_eq_true rfl) ?_
  repeat (first | refine xst ?_ | refine xar ?_ | refine xop ?_ | refine xlen ?_ | refine xld rfl ?_ | refine xsto rfl ?_ | refine xno ?_ | refine xt ?_ | refine xf ?_)
  refine xld rfl ?_ (hv := partF_all rfl hml)
  refine xcall (begin_spec m hs) ?_
  rintro v H ⟨hv, rfl⟩
  rw [if_pos hok, if_pos hok] at hv
  subst hv
  refine G.app ?_
  repeat (first | refine xst ?_ | refine xar ?_ | refine xop ?_ | refine xlen ?_ | refine xld rfl ?_ | refine xsto rfl ?_ | refine xno ?_ | refine xt ?_ | refine xf ?_)
  refine xnew fun b3 => ?_
  refine xsta (cs := stgV m (.slice none 0 0)) rfl (hsl _) (stgV_one m rfl) (stgV m (.slice none 0 0)) (put_all (by rw [hsl]; rfl)) (by rw [hsl]; exact Nat.le_of_ble_eq_true rfl) ?_
  repeat (first | refine xst ?_ | refine xar ?_ | refine xop ?_ | refine xlen ?_ | refine xld rfl ?_ | refine xsto rfl ?_ | refine xno ?_ | refine xt ?_ | refine xf ?_)
  -- Chunk(s, 0, b[:3])
  refine xdraw ?_
  refine xdld 0 rfl rfl ?_ (hv := partF_all rfl (hsl _))
  refine xdop 1 ?_
  refine xdslice 2 0 3 rfl rfl rfl rfl (by omega) (by omega) ?_
  refine xE 25 (.slice (some ⟨b, 0, none⟩) 3 4) rfl rfl ?_
  refine xdact 3 ?_
  haveI : RdOk C [pts b3 (stgV m (.slice none 0 0)), pts b2 m.v, sl 1 (some ⟨b, 0, none⟩) 4 4 (bsV [0, 0, 0, 0])] (slR 1 (some ⟨b, 0, none⟩) 3 4 (bsV [0, 0, 0])) := RdOk.head (n := 4) (bs := [0, 0, 0, 0]) 3 inferInstance (by decide)
  refine xcall (chunk_spec m hs none 0 0 [] rfl (by decide) 0 (some ⟨b, 0, none⟩) 3 4 [0, 0, 0] rfl (by decide)) ?_
  have hc0 : chunkC m 0 0 3 = 0 := by unfold chunkC; rw [hok, hsz]; rfl
  rintro v H ⟨s, rfl, h⟩
  rw [hc0]
  obtain ⟨-, b4, rfl, rfl⟩ : (0 : Int) = 0 ∧ ∃ b, s = stgV m (.slice (some ⟨b, 0, none⟩) (0 + 3) (0 + 3)) ∧ H = [sl 1 (some ⟨b, 0, none⟩) (0 + 3) (0 + 3) (bsV ([] ++ [0, 0, 0]))] := by
    rcases h with ⟨_, h⟩ | ⟨h, _⟩
    · exact ⟨rfl, h⟩
    · exact absurd hc0 h
  refine G.app ?_
  refine xst ?_
  refine xdop 4 ?_
  refine xdop 5 ?_
  refine xdop 6 ?_
  refine xdact 7 ?_
  refine xsta (cs := stgV m (.slice (some ⟨b4, 0, none⟩) 3 3)) rfl (hsl _) (stgV_one m rfl) (stgV m (.slice (some ⟨b4, 0, none⟩) 3 3)) (put_all (by rw [hsl, hsl])) (by rw [hsl, hsl]; exact Nat.le_of_ble_eq_true rfl) ?_
  refine xst ?_
  refine xdop 8 ?_
  refine xdend ?_
  repeat (first | refine xst ?_ | refine xar ?_ | refine xop ?_ | refine xlen ?_ | refine xld rfl ?_ | refine xsto rfl ?_ | refine xno ?_ | refine xt ?_ | refine xf ?_)
  clear h
  refine xreH 0 (sl 1 (some ⟨b4, 0, none⟩) 3 3 (bsV [0, 0, 0])) rfl rfl ?_
  haveI h1d : ∀ H [RdOk C H (slR 1 (some ⟨b, 0, none⟩) 4 4 (bsV [0, 0, 0, 0]))], RdOk C H (slR 1 (some ⟨b, 0, none⟩) 1 4 (bsV [0])) := fun H _ => RdOk.head (n := 4) (bs := [0, 0, 0, 0]) 1 inferInstance (by decide)
  have hc4 : chunkC m 3 2 1 = 4 := by unfold chunkC; rw [hok, hsz]; rfl
  have hc5 : chunkC m 3 3 1 = 0 := by unfold chunkC; rw [hok, hsz]; rfl
  -- Chunk(s, 2, b[:1])
  refine G.cut (σ := Unit) (fun _ => [(1, .slice (some ⟨b, 0, none⟩) 4 4), (2, .pointer (some ⟨b2, 0, none⟩)), (3, .pointer (some ⟨b3, 0, none⟩)), (4, .int .i64 0), (5, .int .i64 0), (7, .int .i64 4)])
    (fun _ => [sl 1 (some ⟨b4, 0, none⟩) 3 3 (bsV [0, 0, 0]), pts b3 (stgV m (.slice (some ⟨b4, 0, none⟩) 3 3)), pts b2 m.v, sl 1 (some ⟨b, 0, none⟩) 4 4 (bsV [0, 0, 0, 0])]) (fun _ => True) ?_ ?_
  · refine xdraw ?_
    refine xdld 0 rfl rfl ?_ (hv := partF_all rfl (hsl _))
    refine xdop 1 ?_
    refine xdslice 2 0 1 rfl rfl rfl rfl (by omega) (by omega) ?_
    refine xE 32 (.slice (some ⟨b, 0, none⟩) 1 4) rfl rfl ?_
    refine xdact2 3 7 ?_ ?_
    · refine xcall (chunk_spec m hs (some ⟨b4, 0, none⟩) 3 3 [0, 0, 0] rfl (by decide) 2 (some ⟨b, 0, none⟩) 1 4 [0] rfl (by decide)) ?_
      rintro v H ⟨s, rfl, h⟩
      rw [hc4]
      obtain ⟨rfl, rfl⟩ : s = stg0 ∧ H = [] := by
        rcases h with ⟨h, _⟩ | ⟨_, h⟩
        · exact absurd (hc4.symm.trans h) (by decide)
        · exact h
      refine G.app ?_
      refine xst ?_
      refine xdop 4 ?_
      refine xdop 5 ?_
      refine xdop 6 ?_
      refine xdact 7 ?_
      refine xnew fun b5 => ?_
      refine xst ?_
      refine xdact 8 ?_
      refine xsta (cs := stg0) rfl rfl (stgV_one man0 rfl) stg0 (put_all rfl) (Nat.le_of_ble_eq_true rfl) ?_
      refine xst ?_
      refine xdop 9 ?_
      refine xdend ?_
      exact G.fin () trivial ⟨rfl, rfl, rfl, rfl, rfl, rfl, trivial⟩ ent_pick
    · refine xnew fun b5 => ?_
      refine xst ?_
      refine xdact 3 ?_
      refine xcall (chunk_spec m hs (some ⟨b4, 0, none⟩) 3 3 [0, 0, 0] rfl (by decide) 2 (some ⟨b, 0, none⟩) 1 4 [0] rfl (by decide)) ?_
      rintro v H ⟨s, rfl, h⟩
      rw [hc4]
      obtain ⟨rfl, rfl⟩ : s = stg0 ∧ H = [] := by
        rcases h with ⟨h, _⟩ | ⟨_, h⟩
        · exact absurd (hc4.symm.trans h) (by decide)
        · exact h
      refine G.app ?_
      refine xst ?_
      refine xdop 4 ?_
      refine xdop 5 ?_
      refine xdop 6 ?_
      refine xdact 8 ?_
      refine xsta (cs := stg0) rfl rfl (stgV_one man0 rfl) stg0 (put_all rfl) (Nat.le_of_ble_eq_true rfl) ?_
      refine xst ?_
      refine xdop 9 ?_
      refine xdend ?_
      exact G.fin () trivial ⟨rfl, rfl, rfl, rfl, rfl, rfl, trivial⟩ ent_pick
  rintro ⟨⟩ -
  show G C _ [(1, .slice (some ⟨b, 0, none⟩) 4 4), (2, .pointer (some ⟨b2, 0, none⟩)), (3, .pointer (some ⟨b3, 0, none⟩)), (4, .int .i64 0), (5, .int .i64 0), (7, .int .i64 4)] [sl 1 (some ⟨b4, 0, none⟩) 3 3 (bsV [0, 0, 0]), pts b3 (stgV m (.slice (some ⟨b4, 0, none⟩) 3 3)), pts b2 m.v, sl 1 (some ⟨b, 0, none⟩) 4 4 (bsV [0, 0, 0, 0])]
  -- Finish(s)
  repeat (first | refine xst ?_ | refine xar ?_ | refine xop ?_ | refine xlen ?_ | refine xld rfl ?_ | refine xsto rfl ?_ | refine xno ?_ | refine xt ?_ | refine xf ?_)
  refine xld rfl ?_ (hv := partF_all rfl (hsl _))
  refine xcall (finish_spec m hs (some ⟨b4, 0, none⟩) 3 3 [0, 0, 0] rfl (by decide)) ?_
  rintro v H ⟨a5, c5, e5, rfl, he5, rfl⟩
  rw [hp3]
  refine G.app ?_
  repeat (first | refine xst ?_ | refine xar ?_ | refine xop ?_ | refine xlen ?_ | refine xld rfl ?_ | refine xsto rfl ?_ | refine xno ?_ | refine xt ?_ | refine xf ?_)
  -- Chunk(s, 3, b[:1])
  refine xdraw ?_
  refine xdld 0 rfl rfl ?_ (hv := partF_all rfl (hsl _))
  refine xdop 1 ?_
  refine xdslice 2 0 1 rfl rfl rfl rfl (by omega) (by omega) ?_
  refine xE 44 (.slice (some ⟨b, 0, none⟩) 1 4) rfl rfl ?_
  refine xdact 3 ?_
  refine xcall (chunk_spec m hs (some ⟨b4, 0, none⟩) 3 3 [0, 0, 0] rfl (by decide) 3 (some ⟨b, 0, none⟩) 1 4 [0] rfl (by decide)) ?_
  rintro v H ⟨s, rfl, h⟩
  rw [hc5]
  obtain ⟨b6, rfl, rfl⟩ : ∃ b, s = stgV m (.slice (some ⟨b, 0, none⟩) (3 + 1) (3 + 1)) ∧ H = [sl 1 (some ⟨b, 0, none⟩) (3 + 1) (3 + 1) (bsV ([0, 0, 0] ++ [0]))] := by
    rcases h with ⟨_, h⟩ | ⟨h, _⟩
    · exact h
    · exact absurd hc5 h
  refine G.app ?_
  refine xst ?_
  refine xdop 4 ?_
  refine xdop 5 ?_
  refine xdop 6 ?_
  refine xdact 7 ?_
  refine xsta (cs := stgV m (.slice (some ⟨b6, 0, none⟩) 4 4)) rfl (hsl _) (stgV_one m rfl) (stgV m (.slice (some ⟨b6, 0, none⟩) 4 4)) (put_all (by rw [hsl, hsl])) (by rw [hsl, hsl]; exact Nat.le_of_ble_eq_true rfl) ?_
  refine xst ?_
  refine xdop 8 ?_
  refine xdend ?_
  clear h
  refine xreH 0 (sl 1 (some ⟨b6, 0, none⟩) 4 4 (bsV [0, 0, 0, 0])) rfl rfl ?_
  -- Finish(s)
  repeat (first | refine xst ?_ | refine xar ?_ | refine xop ?_ | refine xlen ?_ | refine xld rfl ?_ | refine xsto rfl ?_ | refine xno ?_ | refine xt ?_ | refine xf ?_)
  refine xld rfl ?_ (hv := partF_all rfl (hsl _))
  refine xcall (finish_spec m hs (some ⟨b6, 0, none⟩) 4 4 [0, 0, 0, 0] rfl (by decide)) ?_
  rintro v H ⟨a7, c7, e7, rfl, he7, rfl⟩
  have hpl : progL m [0, 0, 0, 0] = [⟨0, 0, 0, 0⟩] := by unfold progL; rw [if_pos hp4]; rfl
  rw [hp4, hpl]
  refine G.app ?_
  refine G.fact (chain [] e7) (P := e7 = .nilIface) (fun w F h => h) fun h => ?_
  subst h
  repeat (first | refine xst ?_ | refine xar ?_ | refine xop ?_ | refine xlen ?_ | refine xld rfl ?_ | refine xsto rfl ?_ | refine xno ?_ | refine xt ?_ | refine xf ?_)
  -- Encode(m)
  refine xld rfl ?_ (hv := partF_all rfl hml)
  refine xcall (iencode_spec m hs) ?_
  rintro v H ⟨a8, c8, rfl, rfl⟩
  obtain ⟨r, hr, hrl⟩ := henc
  rw [hr]
  refine G.app ?_
  refine xslf 0 rfl fun q1 q2 q3 => ?_
  obtain ⟨b8, o8, rfl⟩ := q3 (by simp at q2; omega)
  refine xslf 1 rfl fun q1 q2 q3 => ?_
  obtain ⟨b7, o7, rfl⟩ := q3 (by simp at q2; omega)
  repeat (first | refine xst ?_ | refine xar ?_ | refine xop ?_ | refine xlen ?_ | refine xld rfl ?_ | refine xsto rfl ?_ | refine xno ?_ | refine xt ?_ | refine xf ?_)
  refine xE 58 (.bool true) rfl (by rw [hsz]; rfl) ?_
  repeat (first | refine xst ?_ | refine xar ?_ | refine xop ?_ | refine xlen ?_ | refine xld rfl ?_ | refine xsto rfl ?_ | refine xno ?_ | refine xt ?_ | refine xf ?_)
  refine xcall (text_spec 2 3 e5 (by decide) (by decide)) ?_
  rintro v H ⟨rfl, rfl⟩
  refine G.app ?_
  refine xseq true rfl (by decide) ?_
  repeat (first | refine xst ?_ | refine xar ?_ | refine xop ?_ | refine xlen ?_ | refine xld rfl ?_ | refine xsto rfl ?_ | refine xno ?_ | refine xt ?_ | refine xf ?_)
  refine xix ?_ (hk := Nat.le_of_ble_eq_true rfl)
  refine xldla rfl 0 [bV 0, bV 0, bV 0, bV 0] rfl rfl (by decide) ?_
  repeat (first | refine xst ?_ | refine xar ?_ | refine xop ?_ | refine xlen ?_ | refine xld rfl ?_ | refine xsto rfl ?_ | refine xno ?_ | refine xt ?_ | refine xf ?_)
  refine xeq rfl eq_ins rfl rfl ⟨⟨_, _, _, rfl, rfl⟩, ⟨_, _, _, rfl, rfl⟩, ⟨_, _, _, rfl, rfl⟩, ⟨_, _, _, rfl, rfl⟩, trivial⟩ ?_
  repeat (first | refine xst ?_ | refine xar ?_ | refine xop ?_ | refine xlen ?_ | refine xld rfl ?_ | refine xsto rfl ?_ | refine xno ?_ | refine xt ?_ | refine xf ?_)
  refine xE 100 (.bool true) rfl (congrArg Value.bool (decide_eq_true (by simp only [List.length_cons, hrl]; rfl))) ?_
  repeat (first | refine xst ?_ | refine xar ?_ | refine xop ?_ | refine xlen ?_ | refine xld rfl ?_ | refine xsto rfl ?_ | refine xno ?_ | refine xt ?_ | refine xf ?_)
  refine xix ?_ (hk := Nat.zero_lt_succ _)
  refine xldl rfl 0 rfl ?_
  repeat (first | refine xst ?_ | refine xar ?_ | refine xop ?_ | refine xlen ?_ | refine xld rfl ?_ | refine xsto rfl ?_ | refine xno ?_ | refine xt ?_ | refine xf ?_)
  refine xix ?_ (hk := Nat.succ_lt_succ (Nat.succ_lt_succ (Nat.zero_lt_succ _)))
  refine xldl rfl 2 rfl ?_
  repeat (first | refine xst ?_ | refine xar ?_ | refine xop ?_ | refine xlen ?_ | refine xld rfl ?_ | refine xsto rfl ?_ | refine xno ?_ | refine xt ?_ | refine xf ?_)
  exact xret [] ⟨rfl, rfl⟩
end Go.Proofs.YthlaacnjgdmakaaDoor

/- nacellelaw19: few; two manifests compared. -/
namespace Go.Proofs.YthlaacnjgdmakaaDoor
open Go.W

theorem subA_zero (a : Option Addr) (sz cap : Nat) : subA a 0 sz cap = a := by
  unfold subA
  split
  · rfl
  · cases a with
    | none => rfl
    | some a => simp [Addr.add]
theorem RS.headB {fn : Func} {rd : List HProp} {post : Post} {C : Ctx pg fn rd post} {a : Option Addr} {n cap : Nat} {bs : List UInt8} (h : RS C 1 a n cap (bsV bs)) {m : Nat} (hm : m ≤ n) : RS C 1 a m cap (bsV (bs.take m)) := by
  have := RS.subB h (Nat.zero_le m) hm
  rw [subA_zero] at this
  simpa using this

theorem few_spec (a : Option Addr) (n cap : Nat) (hc : n ≤ cap) (k : Nat) : Fun Tryd.prog 15 [.slice a n cap, .int .i64 k] [] [] fun v H => v = .slice a (min n k) cap ∧ H = [] := by
  refine xenter (p := pg) Tryd.call15 Tryd.func15 fun C => ?_
  repeat (first | refine xst ?_ | refine xar ?_ | refine xop ?_ | refine xlen ?_ | refine xld rfl ?_ | refine xsto rfl ?_ | refine xno ?_ | refine xt ?_ | refine xf ?_)
  refine xd (fun h => ?_) (fun h => ?_)
  · repeat (first | refine xst ?_ | refine xar ?_ | refine xop ?_ | refine xlen ?_ | refine xld rfl ?_ | refine xsto rfl ?_ | refine xno ?_ | refine xt ?_ | refine xf ?_)
    refine xslice 0 k rfl rfl rfl (by omega) (by omega) ?_
    refine xE 11 (.slice a k cap) rfl ?_ ?_
    · rw [subA_zero]; rfl
    repeat (first | refine xst ?_ | refine xar ?_ | refine xop ?_ | refine xlen ?_ | refine xld rfl ?_ | refine xsto rfl ?_ | refine xno ?_ | refine xt ?_ | refine xf ?_)
    refine xret [] ⟨?_, rfl⟩
    rw [Nat.min_eq_right (by omega)]; rfl
  · repeat (first | refine xst ?_ | refine xar ?_ | refine xop ?_ | refine xlen ?_ | refine xld rfl ?_ | refine xsto rfl ?_ | refine xno ?_ | refine xt ?_ | refine xf ?_)
    refine xret [] ⟨?_, rfl⟩
    rw [Nat.min_eq_left (by omega)]; rfl

theorem eq_man : EqK pg 39 ty39 :=
  ⟨EqT.str (d := 9999) ok39 rfl (by kernel_rfl) (by kernel_rfl) ⟨rfl, _, ok3, .inr rfl, EqT.int ok3 rfl rfl 9998, by decide, rfl, _, ok36, .inr rfl, EqT.int ok36 rfl rfl 9998, by decide, rfl, _, ok3, .inr rfl, EqT.int ok3 rfl rfl 9998, by decide, rfl, _, ok37, .inl rfl, EqT.arr (j := ty5) ok37 rfl ok5 rfl (.inr rfl) (EqT.int ok5 rfl rfl 9997), by decide, rfl⟩, rfl, by kernel_rfl⟩
theorem sameMan {m m' : Man} (h : m.sum.length = 32) (h' : m'.sum.length = 32) : SameK m.v m'.v :=
  ⟨⟨_, _, _, rfl, rfl⟩, ⟨_, _, _, rfl, rfl⟩, ⟨_, _, _, rfl, rfl⟩, SameK.bsV (h.trans h'.symm)⟩
theorem wV_inj {x y : UInt32} (h : wV x = wV y) : x = y := by
  unfold wV at h
  simp only [Value.int.injEq, true_and] at h
  exact UInt32.toNat_inj.1 (Int.ofNat.inj h)
theorem Man.v_inj {m m' : Man} (h : m.v = m'.v) : m = m' := by
  obtain ⟨a, b, c, d⟩ := m
  obtain ⟨a', b', c', d'⟩ := m'
  simp only [Man.v, List.cons.injEq, Value.int.injEq, true_and] at h
  obtain ⟨h1, h2, h3, h4⟩ := h
  rw [h1, wV_inj h2, h3, bsV_inj h4]
instance : DecidableEq Man := fun m m' => by
  obtain ⟨a, b, c, d⟩ := m
  obtain ⟨a', b', c', d'⟩ := m'
  exact decidable_of_iff (a = a' ∧ b = b' ∧ c = c' ∧ d = d') (by simp)
theorem eqIV_man {m m' : Man} (h : m.sum.length = 32) (h' : m'.sum.length = 32) : eqIV m.v m'.v = decide (m = m') := by
  have := eqIV_iff (sameMan h h')
  by_cases e : m = m'
  · subst e; rw [decide_eq_true rfl]; exact this.2 rfl
  · rw [decide_eq_false e]
    cases hb : eqIV m.v m'.v with
    | false => rfl
    | true => exact absurd (Man.v_inj (this.1 hb)) e

theorem progF_nil {m : Man} {bs : List UInt8} (h : progF m bs = []) : m.ok = true ∧ m.size = bs.length ∧ m.sum = shaF bs ∧ decF bs = [] := by
  unfold progF at h
  split at h
  · simp at h
  · rename_i h1
    split at h
    · simp at h
    · split at h
      · simp at h
      · split at h
        · simp at h
        · rename_i h2 h3 h4
          refine ⟨by simpa using h1, by omega, by simpa using (Classical.not_not.1 h4).symm, ?_⟩
          cases hd : decF bs with
          | nil => rfl
          | cons q r => rw [hd] at h; simp [inF] at h
theorem decF_nil {bs : List UInt8} (h : decF bs = []) : bs.length % 4 = 0 ∧ ckF (listI bs) = [] := by
  unfold decF at h
  split at h
  · simp at h
  · rename_i h1
    refine ⟨by omega, ?_⟩
    cases hc : ckF (listI bs) with
    | nil => rfl
    | cons q r => obtain ⟨c, x⟩ := q; rw [hc] at h; simp at h
end Go.Proofs.YthlaacnjgdmakaaDoor

/- nacellelaw19.ImagePieces. -/
namespace Go.Proofs.YthlaacnjgdmakaaDoor
open Go.W

def intV (l : List Int) : List Value := l.map (Value.int .i64)
theorem intV_get {l : List Int} {k : Nat} (h : k < l.length) : (intV l)[k]? = some (.int .i64 l[k]) := by simp [intV, h]
theorem offAt_one (off k : Nat) : offAt off k 1 = off + k := by rw [offAt_eq]; omega
theorem ckF_nil {l : List Ins} (h : ckF l = []) : 0 < l.length ∧ l.length ≤ 128 := by
  unfold ckF at h
  split at h
  · simp at h
  · omega
theorem RdOk.piece {fn : Func} {rd : List HProp} {post : Post} {C : Ctx pg fn rd post} {H : List HProp} {a : Option Addr} {n cap : Nat} {bs : List UInt8} (h : RdOk C H (slR 1 a n cap (bsV bs))) (k m : Nat) (hm : k + m ≤ n) :
    RdOk C H (slR 1 (subA a k 1 cap) m (cap - k) (bsV ((bs.drop k).take m))) := by
  have := RdOk.sub h (k := k) (m := k + m) (by omega) hm
  rw [Nat.mul_one, Nat.mul_one, bsV_drop, bsV_take, show k + m - k = m by omega] at this
  exact this

theorem pieces_spec (a : Option Addr) (n cap : Nat) (l : List Ins) (hn : n = l.length) (hl : n ≤ 9223372036854775807) (part : Int) (ver : UInt32) (a2 : Option Addr) (n2 cap2 : Nat) (cuts : List Int) (hn2 : n2 = cuts.length) :
    Fun Tryd.prog 7 [.agg #[.slice a n cap, .int .i64 part, wV ver, .slice a2 n2 cap2]] [gErr, kV, iniV, slR 4 a n cap (inssV l), slR 1 a2 n2 cap2 (intV cuts)] []
    fun v H => v = .bool true ∧ H = [] := by
  subst hn
  subst hn2
  refine xenter (p := pg) Tryd.call7 Tryd.func7 fun C => ?_
  haveI : RP C gErr := RP.of C (by simp)
  haveI : RP C kV := RP.of C (by simp)
  haveI : RP C iniV := RP.of C (by simp)
  haveI hr := RP.slR (RP.of C (X := slR 4 a l.length cap (inssV l)) (by simp))
  haveI hr2 := RP.slR (RP.of C (X := slR 1 a2 cuts.length cap2 (intV cuts)) (by simp))
  repeat (first | refine xst ?_ | refine xar ?_ | refine xop ?_ | refine xlen ?_ | refine xld rfl ?_ | refine xsto rfl ?_ | refine xno ?_ | refine xt ?_ | refine xf ?_)
  refine xnew fun b => ?_
  repeat (first | refine xst ?_ | refine xar ?_ | refine xop ?_ | refine xlen ?_ | refine xld rfl ?_ | refine xsto rfl ?_ | refine xno ?_ | refine xt ?_ | refine xf ?_)
  refine xdraw ?_
  refine xdop 0 ?_
  refine xdld 1 rfl rfl ?_
  refine xdop 2 ?_
  refine xdld 3 rfl rfl ?_
  refine xdop 4 ?_
  refine xdld 5 rfl rfl ?_
  refine xdop 6 ?_
  refine xdld 7 rfl rfl ?_
  refine xdop 8 ?_
  refine xdop 9 ?_
  refine xdop 10 ?_
  refine xdop 11 ?_
  refine xdend ?_
  repeat (first | refine xst ?_ | refine xar ?_ | refine xop ?_ | refine xlen ?_ | refine xld rfl ?_ | refine xsto rfl ?_ | refine xno ?_ | refine xt ?_ | refine xf ?_)
  refine xcall (check_spec a l.length cap l rfl hl) ?_
  rintro e H rfl
  refine G.app ?_
  cases hck : ckF l with
  | cons q r =>
    obtain ⟨c, x⟩ := q
    refine G.fact (chain ((c, x) :: r) e) (P := ∃ b : Nat, e = .iface 128 (.pointer (some ⟨b, 0, none⟩))) (fun w F h => by obtain ⟨b, u, F1, F2, ⟨h1, h2⟩, _⟩ := h; exact ⟨b, h1⟩) fun h => ?_
    obtain ⟨fb, rfl⟩ := h
    repeat (first | refine xst ?_ | refine xar ?_ | refine xop ?_ | refine xlen ?_ | refine xld rfl ?_ | refine xsto rfl ?_ | refine xno ?_ | refine xt ?_ | refine xf ?_)
    refine xcall awake_spec ?_
    rintro v H ⟨rfl, rfl⟩
    refine G.app ?_
    repeat (first | refine xst ?_ | refine xar ?_ | refine xop ?_ | refine xlen ?_ | refine xld rfl ?_ | refine xsto rfl ?_ | refine xno ?_ | refine xt ?_ | refine xf ?_)
    exact xret [] ⟨rfl, rfl⟩
  | nil =>
    refine G.fact (chain [] e) (P := e = .nilIface) (fun w F h => h) fun h => ?_
    subst h
    repeat (first | refine xst ?_ | refine xar ?_ | refine xop ?_ | refine xlen ?_ | refine xld rfl ?_ | refine xsto rfl ?_ | refine xno ?_ | refine xt ?_ | refine xf ?_)
    refine xbc (q := part < 0) 32 (fun hp0 => ?_) (fun hp0 => ?_)
    · repeat (first | refine xst ?_ | refine xar ?_ | refine xop ?_ | refine xlen ?_ | refine xld rfl ?_ | refine xsto rfl ?_ | refine xno ?_ | refine xt ?_ | refine xf ?_)
      refine xcall awake_spec ?_
      rintro v H ⟨rfl, rfl⟩
      refine G.app ?_
      repeat (first | refine xst ?_ | refine xar ?_ | refine xop ?_ | refine xlen ?_ | refine xld rfl ?_ | refine xsto rfl ?_ | refine xno ?_ | refine xt ?_ | refine xf ?_)
      exact xret [] ⟨rfl, rfl⟩
    repeat (first | refine xst ?_ | refine xar ?_ | refine xop ?_ | refine xlen ?_ | refine xld rfl ?_ | refine xsto rfl ?_ | refine xno ?_ | refine xt ?_ | refine xf ?_)
    refine xd (q := 7 < part) (fun hp7 => ?_) (fun hp7 => ?_)
    · repeat (first | refine xst ?_ | refine xar ?_ | refine xop ?_ | refine xlen ?_ | refine xld rfl ?_ | refine xsto rfl ?_ | refine xno ?_ | refine xt ?_ | refine xf ?_)
      refine xcall awake_spec ?_
      rintro v H ⟨rfl, rfl⟩
      refine G.app ?_
      repeat (first | refine xst ?_ | refine xar ?_ | refine xop ?_ | refine xlen ?_ | refine xld rfl ?_ | refine xsto rfl ?_ | refine xno ?_ | refine xt ?_ | refine xf ?_)
      exact xret [] ⟨rfl, rfl⟩
    obtain ⟨hl0, hl1⟩ := ckF_nil hck
    obtain ⟨xs, hxs⟩ : ∃ xs, encI l = xs := ⟨_, rfl⟩
    have hlx : xs.length = 4 * l.length := by rw [← hxs, encI_len]; omega
    obtain ⟨m, hm⟩ : ∃ m : Man, m = ⟨part, ver, (xs.length : Int), shaF xs⟩ := ⟨_, rfl⟩
    have hs : m.sum.length = 32 := by rw [hm]; exact shaF_len _
    have hsz : m.size = xs.length := by rw [hm]
    have hok : m.ok = true := by
      unfold Man.ok
      rw [decide_eq_true_eq, hm]
      refine ⟨by show 0 ≤ part; omega, by show part < 8; omega, by show (4 : Int) ≤ xs.length; omega, by show (xs.length : Int) ≤ 512; omega, ?_⟩
      show (xs.length : Int).tmod 4 = 0
      rw [hlx]; simp
    have hlist : listI xs = l := by rw [← hxs]; exact listI_encI l
    have hdec : decF xs = [] := by unfold decF; rw [if_neg (by omega), hlist, hck]
    have hprog : progF m xs = [] := by
      unfold progF
      rw [hok, hsz, hm, hdec, if_neg (by simp), if_neg (by omega), if_neg (by omega), if_neg (by simp)]; rfl
    have hpl : progL m xs = l := by unfold progL; rw [if_pos hprog, hlist]
    have hml := Man.v_len hs
    have hsl := stgV_len hs
    repeat (first | refine xst ?_ | refine xar ?_ | refine xop ?_ | refine xlen ?_ | refine xld rfl ?_ | refine xsto rfl ?_ | refine xno ?_ | refine xt ?_ | refine xf ?_)
    refine xcall (encode_spec a l.length cap l rfl (by omega)) ?_
    rw [hxs]
    rintro v H ⟨a7, c7, rfl, rfl⟩
    refine G.app ?_
    refine xslf 0 rfl fun _ hc7 _ => ?_
    repeat (first | refine xst ?_ | refine xar ?_ | refine xop ?_ | refine xlen ?_ | refine xld rfl ?_ | refine xsto rfl ?_ | refine xno ?_ | refine xt ?_ | refine xf ?_)
    refine xcall (of_spec part ver a7 xs.length c7 xs rfl (by omega)) ?_
    rintro v H ⟨hv, rfl⟩
    rw [← hm] at hv
    subst hv
    refine G.app ?_
    repeat (first | refine xst ?_ | refine xar ?_ | refine xop ?_ | refine xlen ?_ | refine xld rfl ?_ | refine xsto rfl ?_ | refine xno ?_ | refine xt ?_ | refine xf ?_)
    refine xcall (begin_spec m hs) ?_
    rintro v H ⟨hv, rfl⟩
    rw [if_pos hok, if_pos hok] at hv
    subst hv
    refine G.app ?_
    repeat (first | refine xst ?_ | refine xar ?_ | refine xop ?_ | refine xlen ?_ | refine xld rfl ?_ | refine xsto rfl ?_ | refine xno ?_ | refine xt ?_ | refine xf ?_)
    refine xnew fun b8 => ?_
    refine xsta (cs := stgV m (.slice none 0 0)) rfl (hsl _) (stgV_one m rfl) (stgV m (.slice none 0 0)) (put_all (by rw [hsl]; rfl)) (by rw [hsl]; exact Nat.le_of_ble_eq_true rfl) ?_
    refine G.sln 1 ?_
    refine xreH 0 (sl 1 none 0 0 (bsV (xs.take 0))) rfl rfl ?_
    repeat (first | refine xst ?_ | refine xar ?_ | refine xop ?_ | refine xlen ?_ | refine xld rfl ?_ | refine xsto rfl ?_ | refine xno ?_ | refine xt ?_ | refine xf ?_)
    have hN : xs.length ≤ 512 := by omega
    refine G.loop (σ := Nat × Nat × Option Addr) (fun s => [(6, .slice a2 cuts.length cap2), (7, .slice a7 xs.length c7), (8, .pointer (some ⟨b8, 0, none⟩)), (10, .int .i64 (s.1 : Int)), (11, .int .i64 (s.2.1 : Int))])
      (fun s => [pts b8 (stgV m (.slice s.2.2 s.1 s.1)), sl 1 s.2.2 s.1 s.1 (bsV (xs.take s.1)), sl 1 a7 xs.length c7 (bsV xs)]) (fun s => s.1 ≤ xs.length ∧ s.2.1 ≤ 61 ∧ (s.1 < xs.length → s.2.1 ≤ 60)) (fun s => (xs.length - s.1) + (60 - s.2.1)) (0, 0, none)
      ⟨Nat.zero_le _, by show 0 ≤ 61; omega, by intro _; show 0 ≤ 60; omega⟩ ⟨rfl, rfl, rfl, rfl, rfl, trivial⟩
      (by show Ent _ [pts b8 (stgV m (.slice none 0 0)), sl 1 none 0 0 (bsV (xs.take 0)), sl 1 a7 xs.length c7 (bsV xs)]; exact ent_pick) ?_
    rintro ⟨k, i, g⟩ ⟨hk, hi61, hi60⟩
    simp only at hk hi61 hi60
    show G C _ [(6, .slice a2 cuts.length cap2), (7, .slice a7 xs.length c7), (8, .pointer (some ⟨b8, 0, none⟩)), (10, .int .i64 (k : Int)), (11, .int .i64 (i : Int))] [pts b8 (stgV m (.slice g k k)), sl 1 g k k (bsV (xs.take k)), sl 1 a7 xs.length c7 (bsV xs)]
    repeat (first | refine xst ?_ | refine xar ?_ | refine xop ?_ | refine xlen ?_ | refine xld rfl ?_ | refine xsto rfl ?_ | refine xno ?_ | refine xt ?_ | refine xf ?_)
    refine xd (q := (k : Int) < (xs.length : Int)) (fun hlt => ?_) (fun hlt => ?_)
    · have hlt' : k < xs.length := by omega
      have hi60 := hi60 hlt'
      have hcut : ∀ j, j < cuts.length → ∃ b off, a2 = some ⟨b, off, none⟩ ∧ RSB C b off 1 cuts.length cap2 (intV cuts) := fun j hj => hr2.some (by omega)
      repeat (refine xnot 12 ?_; first | refine xst ?_ | refine xar ?_ | refine xop ?_ | refine xlen ?_ | refine xld rfl ?_ | refine xsto rfl ?_ | refine xno ?_ | refine xt ?_ | refine xf ?_)
      refine xE 12 (.int .i64 ((xs.length - k : Nat) : Int)) rfl (congrArg (Value.int .i64) (by omega)) ?_
      refine xst ?_
      refine xst ?_
      -- the cut, or the rest
      refine G.cut (σ := Nat) (fun n => [(6, .slice a2 cuts.length cap2), (7, .slice a7 xs.length c7), (8, .pointer (some ⟨b8, 0, none⟩)), (10, .int .i64 (k : Int)), (11, .int .i64 (i : Int)), (12, .int .i64 (n : Int))])
        (fun _ => [pts b8 (stgV m (.slice g k k)), sl 1 g k k (bsV (xs.take k)), sl 1 a7 xs.length c7 (bsV xs)]) (fun n => n ≤ xs.length - k ∧ (60 ≤ i → n = xs.length - k)) ?_ ?_
      · repeat (first | refine xst ?_ | refine xar ?_ | refine xop ?_ | refine xlen ?_ | refine xld rfl ?_ | refine xsto rfl ?_ | refine xno ?_ | refine xt ?_ | refine xf ?_)
        refine xbc (q := (i : Int) < (cuts.length : Int)) 63 (fun q1 => ?_) (fun q1 => ?_)
        · have q1 : i < cuts.length := by omega
          repeat (first | refine xst ?_ | refine xar ?_ | refine xop ?_ | refine xlen ?_ | refine xld rfl ?_ | refine xsto rfl ?_ | refine xno ?_ | refine xt ?_ | refine xf ?_)
          refine xbc (q := (i : Int) < 60) 67 (fun q2 => ?_) (fun q2 => ?_)
          · obtain ⟨cb, co, rfl, hcb⟩ := hcut i q1
            repeat (first | refine xst ?_ | refine xar ?_ | refine xop ?_ | refine xlen ?_ | refine xld rfl ?_ | refine xsto rfl ?_ | refine xno ?_ | refine xt ?_ | refine xf ?_)
            refine xix ?_ (hk := q1)
            refine xldl rfl i (intV_get q1) ?_ (hj := offAt_one _ _)
            repeat (first | refine xst ?_ | refine xar ?_ | refine xop ?_ | refine xlen ?_ | refine xld rfl ?_ | refine xsto rfl ?_ | refine xno ?_ | refine xt ?_ | refine xf ?_)
            refine xbc (q := 0 ≤ cuts[i]) 74 (fun q3 => ?_) (fun q3 => ?_)
            · repeat (first | refine xst ?_ | refine xar ?_ | refine xop ?_ | refine xlen ?_ | refine xld rfl ?_ | refine xsto rfl ?_ | refine xno ?_ | refine xt ?_ | refine xf ?_)
              refine xix ?_ (hk := q1)
              refine xldl rfl i (intV_get q1) ?_ (hj := offAt_one _ _)
              repeat (first | refine xst ?_ | refine xar ?_ | refine xop ?_ | refine xlen ?_ | refine xld rfl ?_ | refine xsto rfl ?_ | refine xno ?_ | refine xt ?_ | refine xf ?_)
              refine xd (q := cuts[i] < ((xs.length - k : Nat) : Int)) (fun q4 => ?_) (fun q4 => ?_)
              · repeat (first | refine xst ?_ | refine xar ?_ | refine xop ?_ | refine xlen ?_ | refine xld rfl ?_ | refine xsto rfl ?_ | refine xno ?_ | refine xt ?_ | refine xf ?_)
                refine xix ?_ (hk := q1)
                refine xldl rfl i (intV_get q1) ?_ (hj := offAt_one _ _)
                repeat (first | refine xst ?_ | refine xar ?_ | refine xop ?_ | refine xlen ?_ | refine xld rfl ?_ | refine xsto rfl ?_ | refine xno ?_ | refine xt ?_ | refine xf ?_)
                refine xE 12 (.int .i64 ((cuts[i].toNat : Nat) : Int)) rfl (congrArg (Value.int .i64) (by omega)) ?_
                exact G.fin cuts[i].toNat ⟨by omega, by omega⟩ ⟨rfl, rfl, rfl, rfl, rfl, rfl, trivial⟩ (Ent.refl _)
              · repeat (first | refine xst ?_ | refine xar ?_ | refine xop ?_ | refine xlen ?_ | refine xld rfl ?_ | refine xsto rfl ?_ | refine xno ?_ | refine xt ?_ | refine xf ?_)
                exact G.fin (xs.length - k) ⟨by omega, fun _ => rfl⟩ ⟨rfl, rfl, rfl, rfl, rfl, rfl, trivial⟩ (Ent.refl _)
            · repeat (first | refine xst ?_ | refine xar ?_ | refine xop ?_ | refine xlen ?_ | refine xld rfl ?_ | refine xsto rfl ?_ | refine xno ?_ | refine xt ?_ | refine xf ?_)
              exact G.fin (xs.length - k) ⟨by omega, fun _ => rfl⟩ ⟨rfl, rfl, rfl, rfl, rfl, rfl, trivial⟩ (Ent.refl _)
          · repeat (first | refine xst ?_ | refine xar ?_ | refine xop ?_ | refine xlen ?_ | refine xld rfl ?_ | refine xsto rfl ?_ | refine xno ?_ | refine xt ?_ | refine xf ?_)
            exact G.fin (xs.length - k) ⟨by omega, fun _ => rfl⟩ ⟨rfl, rfl, rfl, rfl, rfl, rfl, trivial⟩ (Ent.refl _)
        · repeat (first | refine xst ?_ | refine xar ?_ | refine xop ?_ | refine xlen ?_ | refine xld rfl ?_ | refine xsto rfl ?_ | refine xno ?_ | refine xt ?_ | refine xf ?_)
          exact G.fin (xs.length - k) ⟨by omega, fun _ => rfl⟩ ⟨rfl, rfl, rfl, rfl, rfl, rfl, trivial⟩ (Ent.refl _)
      rintro n ⟨hn, hn60⟩
      show G C _ [(6, .slice a2 cuts.length cap2), (7, .slice a7 xs.length c7), (8, .pointer (some ⟨b8, 0, none⟩)), (10, .int .i64 (k : Int)), (11, .int .i64 (i : Int)), (12, .int .i64 (n : Int))] [pts b8 (stgV m (.slice g k k)), sl 1 g k k (bsV (xs.take k)), sl 1 a7 xs.length c7 (bsV xs)]
      haveI hpc : ∀ H [RdOk C H (slR 1 a7 xs.length c7 (bsV xs))], RdOk C H (slR 1 (subA a7 k 1 c7) n (c7 - k) (bsV ((xs.drop k).take n))) := fun H h => RdOk.piece h k n (by omega)
      have hc0 : chunkC m k k n = 0 := by
        unfold chunkC; rw [if_neg (by rw [hok, hsz]; simp; omega), if_neg (by simp), if_neg (by rw [hsz]; omega)]
      have htl : (xs.take k).length = k := by rw [List.length_take]; omega
      have hdl : ((xs.drop k).take n).length = n := by rw [List.length_take, List.length_drop]; omega
      have hta : xs.take k ++ (xs.drop k).take n = xs.take (k + n) := List.take_add.symm
      refine xst ?_
      -- the piece
      refine G.cut (σ := Nat × Nat) (fun s => [(6, .slice a2 cuts.length cap2), (7, .slice a7 xs.length c7), (8, .pointer (some ⟨b8, 0, none⟩)), (10, .int .i64 (k : Int)), (11, .int .i64 (i : Int)), (12, .int .i64 (n : Int)), (13, .pointer (some ⟨s.2, 0, none⟩)), (14, .int .i64 0)])
        (fun s => [pts b8 (stgV m (.slice g k k)), sl 1 (some ⟨s.1, 0, none⟩) (k + n) (k + n) (bsV (xs.take (k + n))), pts s.2 (stgV m (.slice (some ⟨s.1, 0, none⟩) (k + n) (k + n))), sl 1 a7 xs.length c7 (bsV xs)]) (fun _ => True) ?_ ?_
      · refine xdraw ?_
        refine xdld 0 rfl rfl ?_ (hv := partF_all rfl (hsl _))
        refine xdop 1 ?_
        refine xdop 2 ?_
        refine xdop 3 ?_
        refine xdop 4 ?_
        refine xdop 5 ?_
        refine xdar 6 ?_
        refine xdslice 7 k (k + n) rfl rfl rfl (Int.natCast_add k n).symm (by omega) (by omega) ?_
        refine xE 94 (.slice (subA a7 k 1 c7) n (c7 - k)) rfl (by rw [show k + n - k = n by omega]; rfl) ?_
        refine xdact2 8 12 ?_ ?_
        · refine xcall (chunk_spec m hs g k k (xs.take k) htl.symm (by omega) (k : Int) (subA a7 k 1 c7) n (c7 - k) ((xs.drop k).take n) hdl.symm (by omega)) ?_
          rintro v H ⟨s, rfl, h⟩
          rw [hc0]
          obtain ⟨b9, rfl, rfl⟩ : ∃ b, s = stgV m (.slice (some ⟨b, 0, none⟩) (k + n) (k + n)) ∧ H = [sl 1 (some ⟨b, 0, none⟩) (k + n) (k + n) (bsV (xs.take (k + n)))] := by
            rcases h with ⟨_, b, h1, h2⟩ | ⟨h, _⟩
            · rw [hta] at h2; exact ⟨b, h1, h2⟩
            · exact absurd hc0 h
          refine G.app ?_
          refine xst ?_
          refine xdop 9 ?_
          refine xdop 10 ?_
          refine xdop 11 ?_
          refine xdact 12 ?_
          refine xnew fun b10 => ?_
          refine xst ?_
          refine xdact 13 ?_
          refine xsta (cs := stgV m (.slice (some ⟨b9, 0, none⟩) (k + n) (k + n))) rfl (hsl _) (stgV_one m rfl) (stgV m (.slice (some ⟨b9, 0, none⟩) (k + n) (k + n))) (put_all (by rw [hsl]; rfl)) (by rw [hsl]; exact Nat.le_of_ble_eq_true rfl) ?_
          refine xst ?_
          refine xdop 14 ?_
          refine xdend ?_
          exact G.fin (b9, b10) trivial ⟨rfl, rfl, rfl, rfl, rfl, rfl, rfl, rfl, trivial⟩ ent_pick
        · refine xnew fun b10 => ?_
          refine xst ?_
          refine xdact 8 ?_
          refine xcall (chunk_spec m hs g k k (xs.take k) htl.symm (by omega) (k : Int) (subA a7 k 1 c7) n (c7 - k) ((xs.drop k).take n) hdl.symm (by omega)) ?_
          rintro v H ⟨s, rfl, h⟩
          rw [hc0]
          obtain ⟨b9, rfl, rfl⟩ : ∃ b, s = stgV m (.slice (some ⟨b, 0, none⟩) (k + n) (k + n)) ∧ H = [sl 1 (some ⟨b, 0, none⟩) (k + n) (k + n) (bsV (xs.take (k + n)))] := by
            rcases h with ⟨_, b, h1, h2⟩ | ⟨h, _⟩
            · rw [hta] at h2; exact ⟨b, h1, h2⟩
            · exact absurd hc0 h
          refine G.app ?_
          refine xst ?_
          refine xdop 9 ?_
          refine xdop 10 ?_
          refine xdop 11 ?_
          refine xdact 13 ?_
          refine xsta (cs := stgV m (.slice (some ⟨b9, 0, none⟩) (k + n) (k + n))) rfl (hsl _) (stgV_one m rfl) (stgV m (.slice (some ⟨b9, 0, none⟩) (k + n) (k + n))) (put_all (by rw [hsl]; rfl)) (by rw [hsl]; exact Nat.le_of_ble_eq_true rfl) ?_
          refine xst ?_
          refine xdop 14 ?_
          refine xdend ?_
          exact G.fin (b9, b10) trivial ⟨rfl, rfl, rfl, rfl, rfl, rfl, rfl, rfl, trivial⟩ ent_pick
      rintro ⟨b9, b10⟩ -
      show G C _ [(6, .slice a2 cuts.length cap2), (7, .slice a7 xs.length c7), (8, .pointer (some ⟨b8, 0, none⟩)), (10, .int .i64 (k : Int)), (11, .int .i64 (i : Int)), (12, .int .i64 (n : Int)), (13, .pointer (some ⟨b10, 0, none⟩)), (14, .int .i64 0)]
        [pts b8 (stgV m (.slice g k k)), sl 1 (some ⟨b9, 0, none⟩) (k + n) (k + n) (bsV (xs.take (k + n))), pts b10 (stgV m (.slice (some ⟨b9, 0, none⟩) (k + n) (k + n))), sl 1 a7 xs.length c7 (bsV xs)]
      repeat (first | refine xst ?_ | refine xar ?_ | refine xop ?_ | refine xlen ?_ | refine xld rfl ?_ | refine xsto rfl ?_ | refine xno ?_ | refine xt ?_ | refine xf ?_)
      refine xld rfl ?_ (hv := partF_all rfl (hsl _))
      refine xsta (cs := stgV m (.slice (some ⟨b9, 0, none⟩) (k + n) (k + n))) rfl (hsl _) (stgV_one m rfl) (stgV m (.slice (some ⟨b9, 0, none⟩) (k + n) (k + n))) (put_all (by rw [hsl, hsl])) (by rw [hsl, hsl]; exact Nat.le_of_ble_eq_true rfl) ?_
      repeat (first | refine xst ?_ | refine xar ?_ | refine xop ?_ | refine xlen ?_ | refine xld rfl ?_ | refine xsto rfl ?_ | refine xno ?_ | refine xt ?_ | refine xf ?_)
      refine G.fin (k + n, i + 1, some ⟨b9, 0, none⟩) ⟨⟨by show k + n ≤ _; omega, by show i + 1 ≤ 61; omega, fun (h : k + n < xs.length) => (by show i + 1 ≤ 60; omega)⟩, by show (xs.length - (k + n)) + (60 - (i + 1)) < (xs.length - k) + (60 - i); omega⟩ ⟨rfl, rfl, rfl, rfl, rfl, trivial⟩ ?_
      show Ent _ [pts b8 (stgV m (.slice (some ⟨b9, 0, none⟩) (k + n) (k + n))), sl 1 (some ⟨b9, 0, none⟩) (k + n) (k + n) (bsV (xs.take (k + n))), sl 1 a7 xs.length c7 (bsV xs)]
      exact ent_pick
    · obtain rfl : k = xs.length := by omega
      refine xreH 1 (sl 1 g xs.length xs.length (bsV xs)) rfl (by rw [List.take_length]) ?_
      repeat (first | refine xst ?_ | refine xar ?_ | refine xop ?_ | refine xlen ?_ | refine xld rfl ?_ | refine xsto rfl ?_ | refine xno ?_ | refine xt ?_ | refine xf ?_)
      refine xld rfl ?_ (hv := partF_all rfl (hsl _))
      refine xcall (finish_spec m hs g xs.length xs.length xs rfl (by omega)) ?_
      rw [hpl, hprog]
      rintro v H ⟨a11, c11, e11, rfl, he11, rfl⟩
      refine G.app ?_
      refine G.fact (chain [] e11) (P := e11 = .nilIface) (fun w F h => h) fun h => ?_
      subst h
      repeat (first | refine xst ?_ | refine xar ?_ | refine xop ?_ | refine xlen ?_ | refine xld rfl ?_ | refine xsto rfl ?_ | refine xno ?_ | refine xt ?_ | refine xf ?_)
      refine xdraw ?_
      refine xdop 0 ?_
      refine xdop 1 ?_
      refine xdop 2 ?_
      (first | refine xdno 3 ?_ | refine xdop 3 ?_)
      (first | refine xdno 6 ?_ | refine xdop 6 ?_)
      refine xdcst 7 xs rfl rfl ?_
      refine xdact 4 ?_
      refine xcall (encode_spec a11 l.length c11 l rfl (by omega)) ?_
      rw [hxs]
      rintro v H ⟨a12, c12, rfl, rfl⟩
      refine G.app ?_
      refine xst ?_
      refine xdcst 5 xs rfl rfl ?_
      refine xdseq 8 true rfl rfl (by simp) ?_
      refine xdop 9 ?_
      refine xdop 10 ?_
      (first | refine xdno 11 ?_ | refine xdop 11 ?_)
      refine xdld 12 rfl rfl ?_ (hv := stgV_man hs _ rfl rfl)
      (first | refine xdno 13 ?_ | refine xdop 13 ?_)
      refine xdact 14 ?_
      refine xcall (icheck_spec m hs a7 xs.length c7 xs rfl (by omega)) ?_
      rw [hprog]
      rintro v H ⟨_, rfl⟩
      refine G.app ?_
      refine G.fact (chain [] v) (P := v = .nilIface) (fun w F h => h) fun h => ?_
      subst h
      refine xst ?_
      (first | refine xdno 15 ?_ | refine xdop 15 ?_)
      refine xdop 16 ?_
      refine xdop 17 ?_
      refine xdact 18 ?_
      refine xcall awake_spec ?_
      rintro v H ⟨rfl, rfl⟩
      refine G.app ?_
      refine xst ?_
      refine xdop 19 ?_
      refine xdop 20 ?_
      refine xdend ?_
      repeat (first | refine xst ?_ | refine xar ?_ | refine xop ?_ | refine xlen ?_ | refine xld rfl ?_ | refine xsto rfl ?_ | refine xno ?_ | refine xt ?_ | refine xf ?_)
      exact xret [] ⟨rfl, rfl⟩
end Go.Proofs.YthlaacnjgdmakaaDoor

/- The closing, what all statements of this seat share: the listed variables; manifests and stagings that come in. -/
namespace Go.Proofs.YthlaacnjgdmakaaDoor
open Go.W Go.ChangeShapes Go.WideShapes Go.ChangeAt Go.RowKit

theorem own : ownKnob Tryd.prog.godebug = none := by kernel_rfl
theorem kids : Kids Tryd.prog (· < Tryd.prog.types.size) := kids_rows (by kernel_rfl) (by kernel_rfl)
theorem full : ∀ t e, t < Tryd.prog.types.size → Tryd.prog.underlying t = some (.slice e) → 0 < Tryd.prog.cellsOf e := slices_full_of _ (by kernel_rfl)

theorem et : Tryd.prog.globalNamed "errors.errorType" = some 2 := by kernel_rfl
theorem rt : (Tryd.prog.cutTypes.find? (·.1 == "internal/reflectlite.rtype")).map (·.2) = some 188 := by kernel_rfl
theorem tsize : Tryd.prog.types.size = 238 := by kernel_rfl
theorem oneRow : ((List.range 238).filter fun t => Tryd.prog.rowNamed t [101, 114, 114, 111, 114]) = [54] := by kernel_rfl
theorem handle_of {W : World} {l : List (String × DataW Unit)} (h : handlesMet Tryd.prog (("errors.errorType", Rows.laid_errors_errorType) :: l) W) : blkAt W 2 [.iface 188 (.agg #[.pointer (some ⟨7, 54, none⟩)])] := by
  obtain ⟨name, u, ty, e1, e2, e3, e4, e5⟩ := h _ List.mem_cons_self
  have en : name = [101, 114, 114, 111, 114] := (Option.some.inj e1).symm
  subst en
  obtain rfl := Option.some.inj (rt.symm.trans e2)
  have hm : ty ∈ (List.range 238).filter fun t => Tryd.prog.rowNamed t [101, 114, 114, 111, 114] := List.mem_filter.2 ⟨List.mem_range.2 (by rw [← tsize]; exact e3), e4⟩
  rw [oneRow] at hm
  obtain rfl := List.mem_singleton.1 hm
  have hh : typeHandle Tryd.prog 54 = .pointer (some ⟨7, 54, none⟩) := by kernel_rfl
  rw [hh] at e5
  exact blk_of_var et e5

theorem gK : Tryd.prog.globalNamed "nacelle/sha.constants" = some 3 := by kernel_rfl
theorem gKt : (Tryd.prog.globals[3]?).map (·.type) = some 184 := by kernel_rfl
theorem cK : Tryd.prog.cellsOf 184 = 64 := by kernel_rfl
theorem gI : Tryd.prog.globalNamed "nacelle/sha.initial" = some 1 := by kernel_rfl
theorem gIt : (Tryd.prog.globals[1]?).map (·.type) = some 139 := by kernel_rfl
theorem cI : Tryd.prog.cellsOf 139 = 8 := by kernel_rfl
theorem cW : Tryd.prog.cellsOf 36 = 1 := by kernel_rfl
theorem wsV_of (l : List UInt32) : (l.map fun x => (x.toNat : Int)).map (fun z => Value.int .u32 z) = wsV l := by simp [wsV, wV]

/-- The list of the statements on images. -/
def shaLaid : List (String × DataW Unit) := [("math/bits.deBruijn32tab", Rows.laid_math_bits_deBruijn32tab), ("math/bits.deBruijn64tab", Rows.laid_math_bits_deBruijn64tab), ("internal/strconv.uint64pow10", Rows.laid_internal_strconv_uint64pow10), ("nacelle/sha.initial", Rows.laid_nacelle_sha_initial),
  ("nacelle/sha.constants", Rows.laid_nacelle_sha_constants), ("errors.errorType", Rows.laid_errors_errorType)]
theorem laid_facts {W : World} (h : laidMetH Tryd.prog shaLaid W) : blkAt W 2 [.iface 188 (.agg #[.pointer (some ⟨7, 54, none⟩)])] ∧ blkAt W 3 (wsV kL) ∧ blkAt W 1 (wsV iniS.l) := by
  have h' : laidMet Tryd.prog [("math/bits.deBruijn32tab", Rows.laid_math_bits_deBruijn32tab), ("math/bits.deBruijn64tab", Rows.laid_math_bits_deBruijn64tab), ("internal/strconv.uint64pow10", Rows.laid_internal_strconv_uint64pow10), ("nacelle/sha.initial", Rows.laid_nacelle_sha_initial),
    ("nacelle/sha.constants", Rows.laid_nacelle_sha_constants)] W ∧ handlesMet Tryd.prog [("errors.errorType", Rows.laid_errors_errorType)] W := h
  refine ⟨handle_of h'.2, ?_, ?_⟩
  · rw [← wsV_of]
    exact laid_tab h'.1 4 (zs := kL.map fun x => (x.toNat : Int)) rfl gK gKt Tryd.underlying184 Tryd.underlying36 cW cK
  · rw [← wsV_of]
    exact laid_tab h'.1 3 (zs := iniS.l.map fun x => (x.toNat : Int)) rfl gI gIt Tryd.underlying139 Tryd.underlying36 cW cI

/-- A world for the witnesses: the settled one, the listed variables as they are laid. -/
noncomputable def laidWorld (os : Os) : World :=
  let w0 := World.holding Tryd.prog os ⟨#[], #[], []⟩
  let put (g : Nat) (l : List Value) (h : Array Obj) : Array Obj := h.modify g fun
      | .cells _ t frozen => .cells l.toArray t frozen
      | o => o
  { w0 with heap := put 2 [.iface 188 (.agg #[.pointer (some ⟨7, 54, none⟩)])] (put 3 (wsV kL) (put 1 (wsV iniS.l)
      (put 4 [.int .u64 1, .int .u64 10, .int .u64 100, .int .u64 1000, .int .u64 10000, .int .u64 100000, .int .u64 1000000, .int .u64 10000000, .int .u64 100000000, .int .u64 1000000000, .int .u64 10000000000, .int .u64 100000000000, .int .u64 1000000000000, .int .u64 10000000000000, .int .u64 100000000000000, .int .u64 1000000000000000, .int .u64 10000000000000000, .int .u64 100000000000000000, .int .u64 1000000000000000000, .int .u64 10000000000000000000] (put 5 [.int .u8 0, .int .u8 1, .int .u8 28, .int .u8 2, .int .u8 29, .int .u8 14, .int .u8 24, .int .u8 3, .int .u8 30, .int .u8 22, .int .u8 20, .int .u8 15, .int .u8 25, .int .u8 17, .int .u8 4, .int .u8 8, .int .u8 31, .int .u8 27, .int .u8 13, .int .u8 23, .int .u8 21, .int .u8 19, .int .u8 16, .int .u8 7, .int .u8 26, .int .u8 12, .int .u8 18, .int .u8 6, .int .u8 11, .int .u8 5, .int .u8 10, .int .u8 9] (put 6 [.int .u8 0, .int .u8 1, .int .u8 56, .int .u8 2, .int .u8 57, .int .u8 49, .int .u8 28, .int .u8 3, .int .u8 61, .int .u8 58, .int .u8 42, .int .u8 50, .int .u8 38, .int .u8 29, .int .u8 17, .int .u8 4, .int .u8 62, .int .u8 47, .int .u8 59, .int .u8 36, .int .u8 45, .int .u8 43, .int .u8 51, .int .u8 22, .int .u8 53, .int .u8 39, .int .u8 33, .int .u8 30, .int .u8 24, .int .u8 18, .int .u8 12, .int .u8 5, .int .u8 63, .int .u8 55, .int .u8 48, .int .u8 27, .int .u8 60, .int .u8 41, .int .u8 37, .int .u8 16, .int .u8 46, .int .u8 35, .int .u8 44, .int .u8 21, .int .u8 52, .int .u8 32, .int .u8 23, .int .u8 11, .int .u8 54, .int .u8 26, .int .u8 40, .int .u8 15, .int .u8 34, .int .u8 20, .int .u8 31, .int .u8 10, .int .u8 25, .int .u8 14, .int .u8 19, .int .u8 9, .int .u8 13, .int .u8 8, .int .u8 7, .int .u8 6] w0.heap))))) }

theorem cells_bytes : ∀ {l : List Value}, (∀ k, k < l.length → ∃ n, (l.drop k).take 1 = [.int .u8 n] ∧ (Lit.int .u8 n).wf = true) → ∃ bs : List UInt8, l = bsV bs ∧ bs.length = l.length
  | [], _ => ⟨[], rfl, rfl⟩
  | v :: l, h => by
    obtain ⟨bs, h1, h2⟩ := cells_bytes (l := l) (fun k hk => by
      have := h (k + 1) (by simpa using hk)
      simpa using this)
    obtain ⟨n, h3, h4⟩ := h 0 (by simp)
    simp only [List.drop_zero, List.take_succ_cons, List.take_zero, List.cons.injEq, and_true] at h3
    subst h3
    have hb : 0 ≤ n ∧ n ≤ 255 := by simpa [Lit.wf, IntKind.min, IntKind.max, IntKind.signed, IntKind.bits] using h4
    refine ⟨UInt8.ofNat n.toNat :: bs, ?_, by simp [h2]⟩
    rw [h1]
    show _ = bV (UInt8.ofNat n.toNat) :: bsV bs
    congr 1
    unfold bV
    congr 1
    simp only [UInt8.toNat_ofNat']
    omega

/-- A manifest that comes in. -/
theorem man_of {W : World} {d : Nat} {cs : List Value} (h : Fits tree.look W (d + 3) 39 cs) : ∃ m : Man, m.sum.length = 32 ∧ cs = m.v ∧ (Lit.int .i64 m.part).wf = true ∧ (Lit.int .i64 m.size).wf = true := by
  obtain ⟨hl, hq⟩ := h
  have hl : cs.length = 35 := hl
  have h0 : Fits tree.look W (d + 2) 3 ((cs.drop 0).take 1) := hq (0, 3) (by simp)
  have h1 : Fits tree.look W (d + 2) 36 ((cs.drop 1).take 1) := hq (1, 36) (by simp)
  have h2 : Fits tree.look W (d + 2) 3 ((cs.drop 2).take 1) := hq (2, 3) (by simp)
  have h3 : Fits tree.look W (d + 2) 37 ((cs.drop 3).take 32) := hq (3, 37) (by simp)
  obtain ⟨p, hp, wp⟩ := h0
  obtain ⟨v, hv, wv⟩ := h1
  obtain ⟨z, hz, wz⟩ := h2
  obtain ⟨hl3, h3⟩ := h3
  have h3 : ∀ k, k < 32 → Fits tree.look W (d + 1) 5 ((((cs.drop 3).take 32).drop (k * 1)).take 1) := h3
  obtain ⟨bs, hb, hbl⟩ := cells_bytes (l := (cs.drop 3).take 32) (fun k hk => by
    have := h3 k (by simpa [hl] using hk)
    rw [Nat.mul_one] at this
    exact this)
  have hv2 : 0 ≤ v ∧ v ≤ 4294967295 := by simpa [Lit.wf, IntKind.min, IntKind.max, IntKind.signed, IntKind.bits] using wv
  refine ⟨⟨p, UInt32.ofNat v.toNat, z, bs⟩, by rw [hbl]; simp [hl], ?_, wp, wz⟩
  match cs, hl with
  | c0 :: c1 :: c2 :: r, hl =>
    simp only [List.drop_zero, List.drop_succ_cons, List.take_succ_cons, List.take_zero, List.cons.injEq, and_true] at hp hv hz hb
    have hr : r.take 32 = r := List.take_of_length_le (by simp at hl; omega)
    rw [hr] at hb
    subst hp; subst hv; subst hz; subst hb
    unfold Man.v wV
    congr 2
    congr 1
    simp only [UInt32.toNat_ofNat']
    omega

theorem cells_one {P : Program} {W : World} {base : Nat} {t e : TypeId} {v : Value} (ht : P.underlying t = some (.slice e)) (hv : Value.okWide P W .any base t v) {a : Option Addr} {n cap : Nat} (h : v.cells.toList = [.slice a n cap]) : v = .slice a n cap := by
  cases v with
  | agg l => simp [Value.okWide, ht, Cell.okWide, Cell.ok] at hv
  | _ => simp_all [Value.cells]
/-- Bytes that come in. -/
theorem bytes_of {W : World} {d : Nat} {cs : List Value} (h : Fits tree.look W (d + 2) 25 cs) : ∃ a n cap, ∃ bs : List UInt8, cs = [.slice a n cap] ∧ n = bs.length ∧ n ≤ cap ∧ cap ≤ maxLen ∧ viewR (fun b l => blkAt W b l) 1 a n cap (bsV bs) := by
  obtain ⟨a, n, cap, rfl, hn, hc, h⟩ := h
  obtain ⟨xs, hv, hx⟩ : ∃ xs, viewR (fun b l => blkAt W b l) 1 a n cap xs ∧ ∀ k, k < n → Fits tree.look W (d + 1) 5 ((xs.drop (k * 1)).take 1) := h (Nat.zero_lt_one)
  have hxl : xs.length = n := by have := hv.len.1; omega
  obtain ⟨bs, rfl, hbl⟩ := cells_bytes (l := xs) (fun k hk => by
    have := hx k (by omega)
    rw [Nat.mul_one] at this
    exact this)
  exact ⟨a, n, cap, bs, rfl, by omega, hn, hc, hv⟩
end Go.Proofs.YthlaacnjgdmakaaDoor
