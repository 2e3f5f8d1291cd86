/- Part of the proof: LAw, LGa, LGb, LGc, LGd -/
import Derived.Test.YthlaacnjgdmakaaDoorK7
import Derived.Test.YthlaacnjgdmakaaDoorK2
import Derived.Test.YthlaacnjgdmakaaDoorK3
/- nacellelaw19.awake: the chapter's examples are as they should be. -/
namespace Go.Proofs.YthlaacnjgdmakaaDoor
open Go.W

theorem eq_ins : EqK pg 63 ty63 := by
  have h8 : EqT pg.P 9998 5 ty5 := EqT.int ok5 rfl rfl 9997
  exact ⟨EqT.str (d := 9999) ok63 rfl (by kernel_rfl) (by kernel_rfl) ⟨rfl, _, ok5, .inr rfl, EqT.int ok5 rfl rfl 9998, by decide, rfl, _, ok5, .inr rfl, EqT.int ok5 rfl rfl 9998, by decide, rfl, _, ok5, .inr rfl, EqT.int ok5 rfl rfl 9998, by decide, rfl, _, ok5, .inr rfl, EqT.int ok5 rfl rfl 9998, by decide, rfl⟩, rfl, by kernel_rfl⟩

theorem awake_spec : Fun Tryd.prog 24 [] [gErr, kV, iniV] [] fun v H => v = .bool true ∧ H = [] := by
  refine xenter (p := pg) Tryd.call24 Tryd.func24 fun C => ?_
  haveI : RP C gErr := RP.of C (by simp)
  haveI : RP C kV := RP.of C (by simp)
  haveI : RP C iniV := RP.of C (by simp)
  obtain ⟨m, hm⟩ : ∃ m : Man, m = ⟨1, 7, (([0, 0, 0, 0] : List UInt8).length : Int), shaF [0, 0, 0, 0]⟩ := ⟨_, rfl⟩
  have hs : m.sum.length = 32 := by rw [hm]; exact shaF_len _
  have hok : m.ok = true := by rw [hm]; rfl
  have hsz : m.size = 4 := by rw [hm]; rfl
  have hp3 : progF m [0, 0, 0] = [(((2 : Nat) : Int), ((3 : Nat) : Int))] := by
    unfold progF; rw [hok, hsz]; rfl
  have hp4 : progF m [0, 0, 0, 0] = [] := by
    unfold progF; rw [hok, hsz, hm]
    rw [if_neg (by decide), if_neg (by decide), if_neg (by decide), if_neg (by simp)]; rfl
  have henc : ∃ r : List UInt8, encM m = 77 :: 1 :: 7 :: r ∧ r.length = 37 := by
    refine ⟨[0, 0, 0] ++ putB 4 2 ++ m.sum, ?_, by simp [hs, putB]⟩
    unfold encM; rw [if_pos hok, hm]; rfl
  repeat (first | refine xst ?_ | refine xar ?_ | refine xop ?_ | refine xlen ?_ | refine xld rfl ?_ | refine xsto rfl ?_ | refine xno ?_ | refine xt ?_ | refine xf ?_)
  refine xbsl fun b => ?_
  refine xslc 0 1 4 (bsV [0, 0, 0, 0]) rfl rfl rfl ?_
  repeat (first | refine xst ?_ | refine xar ?_ | refine xop ?_ | refine xlen ?_ | refine xld rfl ?_ | refine xsto rfl ?_ | refine xno ?_ | refine xt ?_ | refine xf ?_)
  refine xcall (of_spec 1 7 (some ⟨b, 0, none⟩) 4 4 [0, 0, 0, 0] rfl (by decide)) ?_
  rintro v H ⟨hv, rfl⟩
  rw [← hm] at hv
  subst hv
  refine G.app ?_
  have hml := Man.v_len hs
  have hsl := stgV_len hs
  refine xnew fun b2 => ?_
  refine xsta (cs := m.v) rfl hml m.v_one m.v (put_all (by rw [hml]; rfl)) (by rw [hml]; exact Nat.le_of_ble_eq_true rfl) ?_
  repeat (first | refine xst ?_ | refine xar ?_ | refine xop ?_ | refine xlen ?_ | refine xld rfl ?_ | refine xsto rfl ?_ | refine xno ?_ | refine xt ?_ | refine xf ?_)
  refine xld rfl ?_ (hv := partF_all rfl hml)
  refine xcall (begin_spec m hs) ?_
  rintro v H ⟨hv, rfl⟩
  rw [if_pos hok, if_pos hok] at hv
  subst hv
  refine G.app ?_
  repeat (first | refine xst ?_ | refine xar ?_ | refine xop ?_ | refine xlen ?_ | refine xld rfl ?_ | refine xsto rfl ?_ | refine xno ?_ | refine xt ?_ | refine xf ?_)
  refine xnew fun b3 => ?_
  refine xsta (cs := stgV m (.slice none 0 0)) rfl (hsl _) (stgV_one m rfl) (stgV m (.slice none 0 0)) (put_all (by rw [hsl]; rfl)) (by rw [hsl]; exact Nat.le_of_ble_eq_true rfl) ?_
  repeat (first | refine xst ?_ | refine xar ?_ | refine xop ?_ | refine xlen ?_ | refine xld rfl ?_ | refine xsto rfl ?_ | refine xno ?_ | refine xt ?_ | refine xf ?_)
  -- Chunk(s, 0, b[:3])
  refine xdraw ?_
  refine xdld 0 rfl rfl ?_ (hv := partF_all rfl (hsl _))
  refine xdop 1 ?_
  refine xdslice 2 0 3 rfl rfl rfl rfl (by omega) (by omega) ?_
  refine xE 25 (.slice (some ⟨b, 0, none⟩) 3 4) rfl rfl ?_
  refine xdact 3 ?_
  haveI : RdOk C [pts b3 (stgV m (.slice none 0 0)), pts b2 m.v, sl 1 (some ⟨b, 0, none⟩) 4 4 (bsV [0, 0, 0, 0])] (slR 1 (some ⟨b, 0, none⟩) 3 4 (bsV [0, 0, 0])) := RdOk.head (n := 4) (bs := [0, 0, 0, 0]) 3 inferInstance (by decide)
  refine xcall (chunk_spec m hs none 0 0 [] rfl (by decide) 0 (some ⟨b, 0, none⟩) 3 4 [0, 0, 0] rfl (by decide)) ?_
  have hc0 : chunkC m 0 0 3 = 0 := by unfold chunkC; rw [hok, hsz]; rfl
  rintro v H ⟨s, rfl, h⟩
  rw [hc0]
  obtain ⟨-, b4, rfl, rfl⟩ : (0 : Int) = 0 ∧ ∃ b, s = stgV m (.slice (some ⟨b, 0, none⟩) (0 + 3) (0 + 3)) ∧ H = [sl 1 (some ⟨b, 0, none⟩) (0 + 3) (0 + 3) (bsV ([] ++ [0, 0, 0]))] := by
    rcases h with ⟨_, h⟩ | ⟨h, _⟩
    · exact ⟨rfl, h⟩
    · exact absurd hc0 h
  refine G.app ?_
  refine xst ?_
  refine xdop 4 ?_
  refine xdop 5 ?_
  refine xdop 6 ?_
  refine xdact 7 ?_
  refine xsta (cs := stgV m (.slice (some ⟨b4, 0, none⟩) 3 3)) rfl (hsl _) (stgV_one m rfl) (stgV m (.slice (some ⟨b4, 0, none⟩) 3 3)) (put_all (by rw [hsl, hsl])) (by rw [hsl, hsl]; exact Nat.le_of_ble_eq_true rfl) ?_
  refine xst ?_
  refine xdop 8 ?_
  refine xdend ?_
  repeat (first | refine xst ?_ | refine xar ?_ | refine xop ?_ | refine xlen ?_ | refine xld rfl ?_ | refine xsto rfl ?_ | refine xno ?_ | refine xt ?_ | refine xf ?_)
  clear h
  refine xreH 0 (sl 1 (some ⟨b4, 0, none⟩) 3 3 (bsV [0, 0, 0])) rfl rfl ?_
  haveI h1d : ∀ H [RdOk C H (slR 1 (some ⟨b, 0, none⟩) 4 4 (bsV [0, 0, 0, 0]))], RdOk C H (slR 1 (some ⟨b, 0, none⟩) 1 4 (bsV [0])) := fun H _ => RdOk.head (n := 4) (bs := [0, 0, 0, 0]) 1 inferInstance (by decide)
  have hc4 : chunkC m 3 2 1 = 4 := by unfold chunkC; rw [hok, hsz]; rfl
  have hc5 : chunkC m 3 3 1 = 0 := by unfold chunkC; rw [hok, hsz]; rfl
  -- Chunk(s, 2, b[:1])
  refine G.cut (σ := Unit) (fun _ => [(1, .slice (some ⟨b, 0, none⟩) 4 4), (2, .pointer (some ⟨b2, 0, none⟩)), (3, .pointer (some ⟨b3, 0, none⟩)), (4, .int .i64 0), (5, .int .i64 0), (7, .int .i64 4)])
    (fun _ => [sl 1 (some ⟨b4, 0, none⟩) 3 3 (bsV [0, 0, 0]), pts b3 (stgV m (.slice (some ⟨b4, 0, none⟩) 3 3)), pts b2 m.v, sl 1 (some ⟨b, 0, none⟩) 4 4 (bsV [0, 0, 0, 0])]) (fun _ => True) ?_ ?_
  · refine xdraw ?_
    refine xdld 0 rfl rfl ?_ (hv := partF_all rfl (hsl _))
    refine xdop 1 ?_
    refine xdslice 2 0 1 rfl rfl rfl rfl (by omega) (by omega) ?_
    refine xE 32 (.slice (some ⟨b, 0, none⟩) 1 4) rfl rfl ?_
    refine xdact2 3 7 ?_ ?_
    · refine xcall (chunk_spec m hs (some ⟨b4, 0, none⟩) 3 3 [0, 0, 0] rfl (by decide) 2 (some ⟨b, 0, none⟩) 1 4 [0] rfl (by decide)) ?_
      rintro v H ⟨s, rfl, h⟩
      rw [hc4]
      obtain ⟨rfl, rfl⟩ : s = stg0 ∧ H = [] := by
        rcases h with ⟨h, _⟩ | ⟨_, h⟩
        · exact absurd (hc4.symm.trans h) (by decide)
        · exact h
      refine G.app ?_
      refine xst ?_
      refine xdop 4 ?_
      refine xdop 5 ?_
      refine xdop 6 ?_
      refine xdact 7 ?_
      refine xnew fun b5 => ?_
      refine xst ?_
      refine xdact 8 ?_
      refine xsta (cs := stg0) rfl rfl (stgV_one man0 rfl) stg0 (put_all rfl) (Nat.le_of_ble_eq_true rfl) ?_
      refine xst ?_
      refine xdop 9 ?_
      refine xdend ?_
      exact G.fin () trivial ⟨rfl, rfl, rfl, rfl, rfl, rfl, trivial⟩ ent_pick
    · refine xnew fun b5 => ?_
      refine xst ?_
      refine xdact 3 ?_
      refine xcall (chunk_spec m hs (some ⟨b4, 0, none⟩) 3 3 [0, 0, 0] rfl (by decide) 2 (some ⟨b, 0, none⟩) 1 4 [0] rfl (by decide)) ?_
      rintro v H ⟨s, rfl, h⟩
      rw [hc4]
      obtain ⟨rfl, rfl⟩ : s = stg0 ∧ H = [] := by
        rcases h with ⟨h, _⟩ | ⟨_, h⟩
        · exact absurd (hc4.symm.trans h) (by decide)
        · exact h
      refine G.app ?_
      refine xst ?_
      refine xdop 4 ?_
      refine xdop 5 ?_
      refine xdop 6 ?_
      refine xdact 8 ?_
      refine xsta (cs := stg0) rfl rfl (stgV_one man0 rfl) stg0 (put_all rfl) (Nat.le_of_ble_eq_true rfl) ?_
      refine xst ?_
      refine xdop 9 ?_
      refine xdend ?_
      exact G.fin () trivial ⟨rfl, rfl, rfl, rfl, rfl, rfl, trivial⟩ ent_pick
  rintro ⟨⟩ -
  show G C _ [(1, .slice (some ⟨b, 0, none⟩) 4 4), (2, .pointer (some ⟨b2, 0, none⟩)), (3, .pointer (some ⟨b3, 0, none⟩)), (4, .int .i64 0), (5, .int .i64 0), (7, .int .i64 4)] [sl 1 (some ⟨b4, 0, none⟩) 3 3 (bsV [0, 0, 0]), pts b3 (stgV m (.slice (some ⟨b4, 0, none⟩) 3 3)), pts b2 m.v, sl 1 (some ⟨b, 0, none⟩) 4 4 (bsV [0, 0, 0, 0])]
  -- Finish(s)
  repeat (first | refine xst ?_ | refine xar ?_ | refine xop ?_ | refine xlen ?_ | refine xld rfl ?_ | refine xsto rfl ?_ | refine xno ?_ | refine xt ?_ | refine xf ?_)
  refine xld rfl ?_ (hv := partF_all rfl (hsl _))
  refine xcall (finish_spec m hs (some ⟨b4, 0, none⟩) 3 3 [0, 0, 0] rfl (by decide)) ?_
  rintro v H ⟨a5, c5, e5, rfl, he5, rfl⟩
  rw [hp3]
  refine G.app ?_
  repeat (first | refine xst ?_ | refine xar ?_ | refine xop ?_ | refine xlen ?_ | refine xld rfl ?_ | refine xsto rfl ?_ | refine xno ?_ | refine xt ?_ | refine xf ?_)
  -- Chunk(s, 3, b[:1])
  refine xdraw ?_
  refine xdld 0 rfl rfl ?_ (hv := partF_all rfl (hsl _))
  refine xdop 1 ?_
  refine xdslice 2 0 1 rfl rfl rfl rfl (by omega) (by omega) ?_
  refine xE 44 (.slice (some ⟨b, 0, none⟩) 1 4) rfl rfl ?_
  refine xdact 3 ?_
  refine xcall (chunk_spec m hs (some ⟨b4, 0, none⟩) 3 3 [0, 0, 0] rfl (by decide) 3 (some ⟨b, 0, none⟩) 1 4 [0] rfl (by decide)) ?_
  rintro v H ⟨s, rfl, h⟩
  rw [hc5]
  obtain ⟨b6, rfl, rfl⟩ : ∃ b, s = stgV m (.slice (some ⟨b, 0, none⟩) (3 + 1) (3 + 1)) ∧ H = [sl 1 (some ⟨b, 0, none⟩) (3 + 1) (3 + 1) (bsV ([0, 0, 0] ++ [0]))] := by
    rcases h with ⟨_, h⟩ | ⟨h, _⟩
    · exact h
    · exact absurd hc5 h
  refine G.app ?_
  refine xst ?_
  refine xdop 4 ?_
  refine xdop 5 ?_
  refine xdop 6 ?_
  refine xdact 7 ?_
  refine xsta (cs := stgV m (.slice (some ⟨b6, 0, none⟩) 4 4)) rfl (hsl _) (stgV_one m rfl) (stgV m (.slice (some ⟨b6, 0, none⟩) 4 4)) (put_all (by rw [hsl, hsl])) (by rw [hsl, hsl]; exact Nat.le_of_ble_eq_true rfl) ?_
  refine xst ?_
  refine xdop 8 ?_
  refine xdend ?_
  clear h
  refine xreH 0 (sl 1 (some ⟨b6, 0, none⟩) 4 4 (bsV [0, 0, 0, 0])) rfl rfl ?_
  -- Finish(s)
  repeat (first | refine xst ?_ | refine xar ?_ | refine xop ?_ | refine xlen ?_ | refine xld rfl ?_ | refine xsto rfl ?_ | refine xno ?_ | refine xt ?_ | refine xf ?_)
  refine xld rfl ?_ (hv := partF_all rfl (hsl _))
  refine xcall (finish_spec m hs (some ⟨b6, 0, none⟩) 4 4 [0, 0, 0, 0] rfl (by decide)) ?_
  rintro v H ⟨a7, c7, e7, rfl, he7, rfl⟩
  have hpl : progL m [0, 0, 0, 0] = [⟨0, 0, 0, 0⟩] := by unfold progL; rw [if_pos hp4]; rfl
  rw [hp4, hpl]
  refine G.app ?_
  refine G.fact (chain [] e7) (P := e7 = .nilIface) (fun w F h => h) fun h => ?_
  subst h
  repeat (first | refine xst ?_ | refine xar ?_ | refine xop ?_ | refine xlen ?_ | refine xld rfl ?_ | refine xsto rfl ?_ | refine xno ?_ | refine xt ?_ | refine xf ?_)
  -- Encode(m)
  refine xld rfl ?_ (hv := partF_all rfl hml)
  refine xcall (iencode_spec m hs) ?_
  rintro v H ⟨a8, c8, rfl, rfl⟩
  obtain ⟨r, hr, hrl⟩ := henc
  rw [hr]
  refine G.app ?_
  refine xslf 0 rfl fun q1 q2 q3 => ?_
  obtain ⟨b8, o8, rfl⟩ := q3 (by simp at q2; omega)
  refine xslf 1 rfl fun q1 q2 q3 => ?_
  obtain ⟨b7, o7, rfl⟩ := q3 (by simp at q2; omega)
  repeat (first | refine xst ?_ | refine xar ?_ | refine xop ?_ | refine xlen ?_ | refine xld rfl ?_ | refine xsto rfl ?_ | refine xno ?_ | refine xt ?_ | refine xf ?_)
  refine xE 58 (.bool true) rfl (by rw [hsz]; rfl) ?_
  repeat (first | refine xst ?_ | refine xar ?_ | refine xop ?_ | refine xlen ?_ | refine xld rfl ?_ | refine xsto rfl ?_ | refine xno ?_ | refine xt ?_ | refine xf ?_)
  refine xcall (text_spec 2 3 e5 (by decide) (by decide)) ?_
  rintro v H ⟨rfl, rfl⟩
  refine G.app ?_
  refine xseq true rfl (by decide) ?_
  repeat (first | refine xst ?_ | refine xar ?_ | refine xop ?_ | refine xlen ?_ | refine xld rfl ?_ | refine xsto rfl ?_ | refine xno ?_ | refine xt ?_ | refine xf ?_)
  refine xix ?_ (hk := Nat.le_of_ble_eq_true rfl)
  refine xldla rfl 0 [bV 0, bV 0, bV 0, bV 0] rfl rfl (by decide) ?_
  repeat (first | refine xst ?_ | refine xar ?_ | refine xop ?_ | refine xlen ?_ | refine xld rfl ?_ | refine xsto rfl ?_ | refine xno ?_ | refine xt ?_ | refine xf ?_)
  refine xeq rfl eq_ins rfl rfl ⟨⟨_, _, _, rfl, rfl⟩, ⟨_, _, _, rfl, rfl⟩, ⟨_, _, _, rfl, rfl⟩, ⟨_, _, _, rfl, rfl⟩, trivial⟩ ?_
  repeat (first | refine xst ?_ | refine xar ?_ | refine xop ?_ | refine xlen ?_ | refine xld rfl ?_ | refine xsto rfl ?_ | refine xno ?_ | refine xt ?_ | refine xf ?_)
  refine xE 100 (.bool true) rfl (congrArg Value.bool (decide_eq_true (by simp only [List.length_cons, hrl]; rfl))) ?_
  repeat (first | refine xst ?_ | refine xar ?_ | refine xop ?_ | refine xlen ?_ | refine xld rfl ?_ | refine xsto rfl ?_ | refine xno ?_ | refine xt ?_ | refine xf ?_)
  refine xix ?_ (hk := Nat.zero_lt_succ _)
  refine xldl rfl 0 rfl ?_
  repeat (first | refine xst ?_ | refine xar ?_ | refine xop ?_ | refine xlen ?_ | refine xld rfl ?_ | refine xsto rfl ?_ | refine xno ?_ | refine xt ?_ | refine xf ?_)
  refine xix ?_ (hk := Nat.succ_lt_succ (Nat.succ_lt_succ (Nat.zero_lt_succ _)))
  refine xldl rfl 2 rfl ?_
  repeat (first | refine xst ?_ | refine xar ?_ | refine xop ?_ | refine xlen ?_ | refine xld rfl ?_ | refine xsto rfl ?_ | refine xno ?_ | refine xt ?_ | refine xf ?_)
  exact xret [] ⟨rfl, rfl⟩
end Go.Proofs.YthlaacnjgdmakaaDoor

/- gram: sets of bytes. -/
namespace Go.Proofs.YthlaacnjgdmakaaDoor
open Go.W

theorem tdiv_nat (a m : Nat) : (a : Int).tdiv (Int.ofNat m) = ((a / m : Nat) : Int) := rfl
theorem tmod_nat (a m : Nat) : (a : Int).tmod (Int.ofNat m) = ((a % m : Nat) : Int) := rfl
theorem has_spec (x : Nat) (b : UInt8) : Fun Tryd.prog 64 [.agg (setV x).toArray, bV b] [] [] fun v H => v = .bool (x.testBit b.toNat) ∧ H = [] := by
  have hb := b.toNat_lt
  have h4 : b.toNat / 64 < 4 := by omega
  have hm : b.toNat % 64 < 64 := by omega
  refine xenter (p := pg) Tryd.call64 Tryd.func64 fun C => ?_
  repeat (first | refine xst ?_ | refine xar ?_ | refine xop ?_ | refine xlen ?_ | refine xld rfl ?_ | refine xsto rfl ?_ | refine xno ?_ | refine xt ?_ | refine xf ?_)
  refine xnew fun p => ?_
  refine xrep 0 (setV x) rfl rfl ?_
  repeat (refine xnot 6 ?_; first | refine xst ?_ | refine xar ?_ | refine xop ?_ | refine xlen ?_ | refine xld rfl ?_ | refine xsto rfl ?_ | refine xno ?_ | refine xt ?_ | refine xf ?_)
  refine xE 6 (.int .u8 ((b.toNat / 64 : Nat) : Int)) rfl (congrArg (Value.int .u8) (show IntKind.u8.wrap ((b.toNat / 64 : Nat) : Int) = _ from wrap_in (k := .u8) ⟨by omega, by omega⟩)) ?_
  refine xix ?_ (hk := (by omega : b.toNat / 64 < 4))
  refine xEp 7 (b.toNat / 64) rfl (Nat.zero_add _) ?_
  refine xld rfl ?_ (hv := setV_get x h4)
  repeat (refine xnot 10 ?_; first | refine xst ?_ | refine xar ?_ | refine xop ?_ | refine xlen ?_ | refine xld rfl ?_ | refine xsto rfl ?_ | refine xno ?_ | refine xt ?_ | refine xf ?_)
  refine xE 10 (.int .u8 ((b.toNat % 64 : Nat) : Int)) rfl (congrArg (Value.int .u8) (tmod_nat _ _)) ?_
  repeat (refine xnot 11 ?_; first | refine xst ?_ | refine xar ?_ | refine xop ?_ | refine xlen ?_ | refine xld rfl ?_ | refine xsto rfl ?_ | refine xno ?_ | refine xt ?_ | refine xf ?_)
  refine xE 11 (.int .u64 ((setW x (b.toNat / 64) >>> (b.toNat % 64) : Nat) : Int)) rfl (congrArg (Value.int .u64) (W.u64_shr _ _ hm)) ?_
  repeat (refine xnot 12 ?_; first | refine xst ?_ | refine xar ?_ | refine xop ?_ | refine xlen ?_ | refine xld rfl ?_ | refine xsto rfl ?_ | refine xno ?_ | refine xt ?_ | refine xf ?_)
  refine xE 12 (.int .u64 ((setW x (b.toNat / 64) >>> (b.toNat % 64) &&& 1 : Nat) : Int)) rfl (congrArg (Value.int .u64) (W.u64_and (b := 1) (Nat.lt_of_le_of_lt (Nat.shiftRight_le _ _) (setW_lt _ _)) (by decide))) ?_
  repeat (first | refine xst ?_ | refine xar ?_ | refine xop ?_ | refine xlen ?_ | refine xld rfl ?_ | refine xsto rfl ?_ | refine xno ?_ | refine xt ?_ | refine xf ?_)
  refine xret [] ⟨?_, rfl⟩
  refine congrArg Value.bool ?_
  rw [← setW_bit x b.toNat]
  have := bit_one (setW x (b.toNat / 64)) (b.toNat % 64)
  rw [Bool.eq_iff_iff, decide_eq_true_eq, ← this]
  omega

theorem sor_spec (x y : Nat) : Fun Tryd.prog 88 [.agg (setV x).toArray, .agg (setV y).toArray] [] [] fun v H => v = .agg (setV (x ||| y)).toArray ∧ H = [] := by
  refine xenter (p := pg) Tryd.call88 Tryd.func88 fun C => ?_
  repeat (first | refine xst ?_ | refine xar ?_ | refine xop ?_ | refine xlen ?_ | refine xld rfl ?_ | refine xsto rfl ?_ | refine xno ?_ | refine xt ?_ | refine xf ?_)
  refine xnew fun p => ?_
  refine xnew fun q => ?_
  refine xnew fun r => ?_
  refine xrep 2 (orL x y 0) rfl rfl ?_
  refine xrep 2 (setV y) rfl rfl ?_
  refine xrep 2 (setV 0) rfl rfl ?_
  repeat (first | refine xst ?_ | refine xar ?_ | refine xop ?_ | refine xlen ?_ | refine xld rfl ?_ | refine xsto rfl ?_ | refine xno ?_ | refine xt ?_ | refine xf ?_)
  refine G.loop (σ := Nat) (fun i => [(2, .pointer (some ⟨p, 0, none⟩)), (3, .pointer (some ⟨q, 0, none⟩)), (4, .pointer (some ⟨r, 0, none⟩)), (6, .int .i64 (i : Int))])
    (fun i => [pts r (setV 0), pts q (setV y), pts p (orL x y i)]) (fun i => i ≤ 4) (fun i => 4 - i) 0 (Nat.zero_le _) ⟨rfl, rfl, rfl, rfl, trivial⟩ (Ent.refl _) ?_
  intro i hi
  have hi : i ≤ 4 := hi
  show G C _ [(2, .pointer (some ⟨p, 0, none⟩)), (3, .pointer (some ⟨q, 0, none⟩)), (4, .pointer (some ⟨r, 0, none⟩)), (6, .int .i64 (i : Int))] [pts r (setV 0), pts q (setV y), pts p (orL x y i)]
  repeat (first | refine xst ?_ | refine xar ?_ | refine xop ?_ | refine xlen ?_ | refine xld rfl ?_ | refine xsto rfl ?_ | refine xno ?_ | refine xt ?_ | refine xf ?_)
  refine xd (q := (i : Int) < 4) (fun h => ?_) (fun h => ?_)
  · have h : i < 4 := by omega
    repeat (first | refine xst ?_ | refine xar ?_ | refine xop ?_ | refine xlen ?_ | refine xld rfl ?_ | refine xsto rfl ?_ | refine xno ?_ | refine xt ?_ | refine xf ?_)
    refine xdraw ?_
    refine xdop 0 ?_
    refine xdix 1 ?_ (hk := by first | omega | exact Nat.le_of_ble_eq_true rfl)
    refine xEp 10 i rfl (Nat.zero_add _) ?_
    refine xdld 2 rfl rfl ?_ (hv := orL_get x y h)
    refine xdop 3 ?_
    refine xdix 4 ?_ (hk := by first | omega | exact Nat.le_of_ble_eq_true rfl)
    refine xEp 13 i rfl (Nat.zero_add _) ?_
    refine xdld 5 rfl rfl ?_ (hv := setV_get y h)
    refine xdop 6 ?_
    refine xE 15 (.int .u64 ((setW (x ||| y) i : Nat) : Int)) rfl (congrArg (Value.int .u64) (by rw [setW_or]; exact W.u64_or (setW_lt _ _) (setW_lt _ _))) ?_
    refine xdix 7 ?_ (hk := by first | omega | exact Nat.le_of_ble_eq_true rfl)
    refine xEp 16 i rfl (Nat.zero_add _) ?_
    refine xdact 8 ?_
    refine xsto rfl ?_ (hm := (putF_one (by rw [orL_len x y (by omega)]; exact h)).trans (congrArg some (orL_set x y h)))
    refine xst ?_
    refine xdend ?_
    repeat (first | refine xst ?_ | refine xar ?_ | refine xop ?_ | refine xlen ?_ | refine xld rfl ?_ | refine xsto rfl ?_ | refine xno ?_ | refine xt ?_ | refine xf ?_)
    refine xE 6 (.int .i64 ((i + 1 : Nat) : Int)) rfl rfl ?_
    exact G.fin (i + 1) ⟨by show i + 1 ≤ 4; omega, by show 4 - (i + 1) < 4 - i; omega⟩ ⟨rfl, rfl, rfl, rfl, trivial⟩ (Ent.refl _)
  · obtain rfl : i = 4 := by omega
    repeat (first | refine xst ?_ | refine xar ?_ | refine xop ?_ | refine xlen ?_ | refine xld rfl ?_ | refine xsto rfl ?_ | refine xno ?_ | refine xt ?_ | refine xf ?_)
    exact xretm [] rfl (.c .nil rfl rfl (partF_all rfl rfl)) ⟨rfl, rfl⟩

theorem sand_spec (x y : Nat) : Fun Tryd.prog 99 [.agg (setV x).toArray, .agg (setV y).toArray] [] [] fun v H => v = .agg (setV (x &&& y)).toArray ∧ H = [] := by
  refine xenter (p := pg) Tryd.call99 Tryd.func99 fun C => ?_
  repeat (first | refine xst ?_ | refine xar ?_ | refine xop ?_ | refine xlen ?_ | refine xld rfl ?_ | refine xsto rfl ?_ | refine xno ?_ | refine xt ?_ | refine xf ?_)
  refine xnew fun p => ?_
  refine xnew fun q => ?_
  refine xnew fun r => ?_
  refine xrep 2 (andL x y 0) rfl rfl ?_
  refine xrep 2 (setV y) rfl rfl ?_
  refine xrep 2 (setV 0) rfl rfl ?_
  repeat (first | refine xst ?_ | refine xar ?_ | refine xop ?_ | refine xlen ?_ | refine xld rfl ?_ | refine xsto rfl ?_ | refine xno ?_ | refine xt ?_ | refine xf ?_)
  refine G.loop (σ := Nat) (fun i => [(2, .pointer (some ⟨p, 0, none⟩)), (3, .pointer (some ⟨q, 0, none⟩)), (4, .pointer (some ⟨r, 0, none⟩)), (6, .int .i64 (i : Int))])
    (fun i => [pts r (setV 0), pts q (setV y), pts p (andL x y i)]) (fun i => i ≤ 4) (fun i => 4 - i) 0 (Nat.zero_le _) ⟨rfl, rfl, rfl, rfl, trivial⟩ (Ent.refl _) ?_
  intro i hi
  have hi : i ≤ 4 := hi
  show G C _ [(2, .pointer (some ⟨p, 0, none⟩)), (3, .pointer (some ⟨q, 0, none⟩)), (4, .pointer (some ⟨r, 0, none⟩)), (6, .int .i64 (i : Int))] [pts r (setV 0), pts q (setV y), pts p (andL x y i)]
  repeat (first | refine xst ?_ | refine xar ?_ | refine xop ?_ | refine xlen ?_ | refine xld rfl ?_ | refine xsto rfl ?_ | refine xno ?_ | refine xt ?_ | refine xf ?_)
  refine xd (q := (i : Int) < 4) (fun h => ?_) (fun h => ?_)
  · have h : i < 4 := by omega
    repeat (first | refine xst ?_ | refine xar ?_ | refine xop ?_ | refine xlen ?_ | refine xld rfl ?_ | refine xsto rfl ?_ | refine xno ?_ | refine xt ?_ | refine xf ?_)
    refine xdraw ?_
    refine xdop 0 ?_
    refine xdix 1 ?_ (hk := by first | omega | exact Nat.le_of_ble_eq_true rfl)
    refine xEp 10 i rfl (Nat.zero_add _) ?_
    refine xdld 2 rfl rfl ?_ (hv := andL_get x y h)
    refine xdop 3 ?_
    refine xdix 4 ?_ (hk := by first | omega | exact Nat.le_of_ble_eq_true rfl)
    refine xEp 13 i rfl (Nat.zero_add _) ?_
    refine xdld 5 rfl rfl ?_ (hv := setV_get y h)
    refine xdop 6 ?_
    refine xE 15 (.int .u64 ((setW (x &&& y) i : Nat) : Int)) rfl (congrArg (Value.int .u64) (by rw [setW_and]; exact W.u64_and (setW_lt _ _) (setW_lt _ _))) ?_
    refine xdix 7 ?_ (hk := by first | omega | exact Nat.le_of_ble_eq_true rfl)
    refine xEp 16 i rfl (Nat.zero_add _) ?_
    refine xdact 8 ?_
    refine xsto rfl ?_ (hm := (putF_one (by rw [andL_len x y (by omega)]; exact h)).trans (congrArg some (andL_set x y h)))
    refine xst ?_
    refine xdend ?_
    repeat (first | refine xst ?_ | refine xar ?_ | refine xop ?_ | refine xlen ?_ | refine xld rfl ?_ | refine xsto rfl ?_ | refine xno ?_ | refine xt ?_ | refine xf ?_)
    refine xE 6 (.int .i64 ((i + 1 : Nat) : Int)) rfl rfl ?_
    exact G.fin (i + 1) ⟨by show i + 1 ≤ 4; omega, by show 4 - (i + 1) < 4 - i; omega⟩ ⟨rfl, rfl, rfl, rfl, trivial⟩ (Ent.refl _)
  · obtain rfl : i = 4 := by omega
    repeat (first | refine xst ?_ | refine xar ?_ | refine xop ?_ | refine xlen ?_ | refine xld rfl ?_ | refine xsto rfl ?_ | refine xno ?_ | refine xt ?_ | refine xf ?_)
    exact xretm [] rfl (.c .nil rfl rfl (partF_all rfl rfl)) ⟨rfl, rfl⟩

def bitsV (x : Nat) (k : Nat) : List Value := (List.range 256).map fun b => .bool (decide (b < k) && x.testBit b)
theorem bitsV_len (x k : Nat) : (bitsV x k).length = 256 := by simp [bitsV]
theorem bitsV_set (x : Nat) {k : Nat} (h : k < 256) : (bitsV x k).set k (.bool (x.testBit k)) = bitsV x (k + 1) := by
  apply List.ext_getElem
  · simp [bitsV]
  · intro i h1 h2
    simp only [bitsV, List.getElem_set, List.getElem_map, List.getElem_range]
    by_cases hk : k = i
    · subst hk; simp
    · simp only [if_neg hk]; congr 2; simp; omega
theorem bitsV_zero (x : Nat) : bitsV x 0 = List.replicate 256 (.bool false) := by
  unfold bitsV
  simp only [Nat.not_lt_zero, decide_false, Bool.false_and]
  rw [List.map_const', List.length_range]
/-- A set as flags. -/
def flagsV (x : Nat) : List Value := bitsV x 256
theorem flagsV_get (x : Nat) {b : Nat} (h : b < 256) : (flagsV x)[b]? = some (.bool (x.testBit b)) := by
  simp [flagsV, bitsV, h]
theorem flagsV_one (x : Nat) : ∀ v ∈ bitsV x 256, v.oneCell' = true := by
  intro v hv
  obtain ⟨b, _, rfl⟩ := List.mem_map.1 hv
  rfl
set_option maxRecDepth 20000 in
theorem flags_spec (x : Nat) : Fun Tryd.prog 39 [.agg (setV x).toArray] [] [] fun v H => v = .agg (flagsV x).toArray ∧ H = [] := by
  refine xenter (p := pg) Tryd.call39 Tryd.func39 fun C => ?_
  repeat (first | refine xst ?_ | refine xar ?_ | refine xop ?_ | refine xlen ?_ | refine xld rfl ?_ | refine xsto rfl ?_ | refine xno ?_ | refine xt ?_ | refine xf ?_)
  refine xnew fun p => ?_
  refine xrep 0 (setV x) rfl rfl ?_
  repeat (first | refine xst ?_ | refine xar ?_ | refine xop ?_ | refine xlen ?_ | refine xld rfl ?_ | refine xsto rfl ?_ | refine xno ?_ | refine xt ?_ | refine xf ?_)
  refine xnew fun q => ?_
  refine xrep 0 (List.replicate 256 (.bool false)) rfl rfl ?_
  repeat (first | refine xst ?_ | refine xar ?_ | refine xop ?_ | refine xlen ?_ | refine xld rfl ?_ | refine xsto rfl ?_ | refine xno ?_ | refine xt ?_ | refine xf ?_)
  refine xnew fun r => ?_
  refine xrep 0 (bitsV x 0) rfl (bitsV_zero x).symm ?_
  repeat (first | refine xst ?_ | refine xar ?_ | refine xop ?_ | refine xlen ?_ | refine xld rfl ?_ | refine xsto rfl ?_ | refine xno ?_ | refine xt ?_ | refine xf ?_)
  refine G.loop (σ := Nat) (fun i => [(1, .pointer (some ⟨p, 0, none⟩)), (2, .pointer (some ⟨q, 0, none⟩)), (3, .pointer (some ⟨r, 0, none⟩)), (5, .int .i64 (i : Int))])
    (fun i => [pts r (bitsV x i), pts q (List.replicate 256 (.bool false)), pts p (setV x)]) (fun i => i ≤ 256) (fun i => 256 - i) 0 (Nat.zero_le _) ⟨rfl, rfl, rfl, rfl, trivial⟩ (Ent.refl _) ?_
  intro i hi
  have hi : i ≤ 256 := hi
  show G C _ [(1, .pointer (some ⟨p, 0, none⟩)), (2, .pointer (some ⟨q, 0, none⟩)), (3, .pointer (some ⟨r, 0, none⟩)), (5, .int .i64 (i : Int))] [pts r (bitsV x i), pts q (List.replicate 256 (.bool false)), pts p (setV x)]
  repeat (first | refine xst ?_ | refine xar ?_ | refine xop ?_ | refine xlen ?_ | refine xld rfl ?_ | refine xsto rfl ?_ | refine xno ?_ | refine xt ?_ | refine xf ?_)
  refine xd (q := (i : Int) < 256) (fun h => ?_) (fun h => ?_)
  · have h : i < 256 := by omega
    have hu : (UInt8.ofNat i).toNat = i := by simp only [UInt8.toNat_ofNat']; omega
    repeat (refine xnot 11 ?_; first | refine xst ?_ | refine xar ?_ | refine xop ?_ | refine xlen ?_ | refine xld rfl ?_ | refine xsto rfl ?_ | refine xno ?_ | refine xt ?_ | refine xf ?_)
    refine xE 11 (bV (UInt8.ofNat i)) rfl ?_ ?_
    · unfold bV; rw [hu]; exact congrArg (Value.int .u8) (wrap_in (k := .u8) ⟨by omega, by omega⟩)
    refine xcall (has_spec x (UInt8.ofNat i)) ?_
    rintro v H ⟨rfl, rfl⟩
    rw [hu]
    refine G.app ?_
    refine xix ?_ (hk := h)
    refine xEp 13 i rfl (Nat.zero_add _) ?_
    refine xsto rfl ?_ (hm := (putF_one (by rw [bitsV_len]; exact h)).trans (congrArg some (bitsV_set x h)))
    repeat (first | refine xst ?_ | refine xar ?_ | refine xop ?_ | refine xlen ?_ | refine xld rfl ?_ | refine xsto rfl ?_ | refine xno ?_ | refine xt ?_ | refine xf ?_)
    exact G.fin (i + 1) ⟨by show i + 1 ≤ 256; omega, by show 256 - (i + 1) < 256 - i; omega⟩ ⟨rfl, rfl, rfl, rfl, trivial⟩ (Ent.refl _)
  · obtain rfl : i = 256 := by omega
    obtain ⟨l, hl⟩ : ∃ l, flagsV x = l := ⟨_, rfl⟩
    have hln : l.length = 256 := by rw [← hl]; exact bitsV_len _ _
    have hone : ∀ v ∈ l, v.oneCell' = true := by rw [← hl]; exact flagsV_one x
    have hl' : bitsV x 256 = l := hl
    rw [hl']
    repeat (first | refine xst ?_ | refine xar ?_ | refine xop ?_ | refine xlen ?_ | refine xld rfl ?_ | refine xsto rfl ?_ | refine xno ?_ | refine xt ?_ | refine xf ?_)
    refine xld rfl ?_ (hv := partF_all rfl hln)
    refine xsta (cs := l) rfl hln hone l (put_all (by rw [hln]; rfl)) (by rw [hln]; exact Nat.le_of_ble_eq_true rfl) ?_
    repeat (first | refine xst ?_ | refine xar ?_ | refine xop ?_ | refine xlen ?_ | refine xld rfl ?_ | refine xsto rfl ?_ | refine xno ?_ | refine xt ?_ | refine xf ?_)
    exact xretm [] rfl (.c .nil rfl rfl (partF_all rfl hln)) ⟨by rw [hl]; rfl, rfl⟩

theorem span_spec (lo hi : UInt8) : Fun Tryd.prog 91 [bV lo, bV hi] [] [] fun v H => v = .agg (setV (W.span lo.toNat hi.toNat)).toArray ∧ H = [] := by
  have hlo := lo.toNat_lt
  have hhi := hi.toNat_lt
  refine xenter (p := pg) Tryd.call91 Tryd.func91 fun C => ?_
  repeat (first | refine xst ?_ | refine xar ?_ | refine xop ?_ | refine xlen ?_ | refine xld rfl ?_ | refine xsto rfl ?_ | refine xno ?_ | refine xt ?_ | refine xf ?_)
  refine xnew fun q => ?_
  refine xrep 0 (setV 0) rfl rfl ?_
  repeat (first | refine xst ?_ | refine xar ?_ | refine xop ?_ | refine xlen ?_ | refine xld rfl ?_ | refine xsto rfl ?_ | refine xno ?_ | refine xt ?_ | refine xf ?_)
  refine xnew fun p => ?_
  refine xrep 0 (setV (spanN lo.toNat 0)) rfl (by rw [show spanN lo.toNat 0 = 0 from rfl]; rfl) ?_
  repeat (refine xnot 8 ?_; first | refine xst ?_ | refine xar ?_ | refine xop ?_ | refine xlen ?_ | refine xld rfl ?_ | refine xsto rfl ?_ | refine xno ?_ | refine xt ?_ | refine xf ?_)
  refine xE 8 (.int .i64 ((lo.toNat + 0 : Nat) : Int)) rfl rfl ?_
  repeat (first | refine xst ?_ | refine xar ?_ | refine xop ?_ | refine xlen ?_ | refine xld rfl ?_ | refine xsto rfl ?_ | refine xno ?_ | refine xt ?_ | refine xf ?_)
  refine G.loop (σ := Nat) (fun i => [(1, bV hi), (4, .pointer (some ⟨q, 0, none⟩)), (5, .pointer (some ⟨p, 0, none⟩)), (6, .int .i64 ((lo.toNat + i : Nat) : Int))])
    (fun i => [pts p (setV (spanN lo.toNat i)), pts q (setV 0)]) (fun i => i ≤ hi.toNat + 1 - lo.toNat) (fun i => 256 - i) 0 (Nat.zero_le _) ⟨rfl, rfl, rfl, rfl, trivial⟩ (Ent.refl _) ?_
  intro i hi'
  have hi' : i ≤ hi.toNat + 1 - lo.toNat := hi'
  show G C _ [(1, bV hi), (4, .pointer (some ⟨q, 0, none⟩)), (5, .pointer (some ⟨p, 0, none⟩)), (6, .int .i64 ((lo.toNat + i : Nat) : Int))] [pts p (setV (spanN lo.toNat i)), pts q (setV 0)]
  repeat (first | refine xst ?_ | refine xar ?_ | refine xop ?_ | refine xlen ?_ | refine xld rfl ?_ | refine xsto rfl ?_ | refine xno ?_ | refine xt ?_ | refine xf ?_)
  refine xd (q := ((lo.toNat + i : Nat) : Int) ≤ (hi.toNat : Int)) (fun h => ?_) (fun h => ?_)
  · have h : lo.toNat + i ≤ hi.toNat := by omega
    obtain ⟨b, hb⟩ : ∃ b, b = lo.toNat + i := ⟨_, rfl⟩
    have h4 : b / 64 < 4 := by omega
    have hm : b % 64 < 64 := by omega
    rw [← hb]
    repeat (first | refine xst ?_ | refine xar ?_ | refine xop ?_ | refine xlen ?_ | refine xld rfl ?_ | refine xsto rfl ?_ | refine xno ?_ | refine xt ?_ | refine xf ?_)
    refine xdraw ?_
    refine xdop 0 ?_
    refine xdop 1 ?_
    refine xE 16 (.int .i64 ((b / 64 : Nat) : Int)) rfl (congrArg (Value.int .i64) (show IntKind.i64.wrap ((b / 64 : Nat) : Int) = _ from wrap_nat (by omega))) ?_
    refine xdix 2 ?_ (hk := by first | omega | exact Nat.le_of_ble_eq_true rfl)
    refine xEp 17 (b / 64) rfl (Nat.zero_add _) ?_
    refine xdld 3 rfl rfl ?_ (hv := setV_get _ h4)
    refine xdop 4 ?_
    refine xdop 5 ?_
    refine xE 20 (.int .i64 ((b % 64 : Nat) : Int)) rfl (congrArg (Value.int .i64) (tmod_nat _ _)) ?_
    refine xdop 6 ?_
    refine xE 21 (.int .u64 ((1 <<< (b % 64) : Nat) : Int)) rfl (congrArg (Value.int .u64) (W.u64_bit _ hm)) ?_
    refine xdop 7 ?_
    refine xE 22 (.int .u64 ((setW (spanN lo.toNat i) (b / 64) ||| 1 <<< (b % 64) : Nat) : Int)) rfl (congrArg (Value.int .u64) (W.u64_or (setW_lt _ _) (by rw [Nat.one_shiftLeft]; exact Nat.lt_of_lt_of_le (Nat.pow_lt_pow_right (by decide) hm) (by decide)))) ?_
    refine xdix 8 ?_ (hk := by first | omega | exact Nat.le_of_ble_eq_true rfl)
    refine xEp 23 (b / 64) rfl (Nat.zero_add _) ?_
    refine xdact 9 ?_
    refine xsto rfl ?_ (hm := (putF_one (by rw [setV_len]; exact h4)).trans (congrArg some (setV_put (spanN lo.toNat i) b (by omega)).symm))
    refine xst ?_
    refine xdend ?_
    repeat (first | refine xst ?_ | refine xar ?_ | refine xop ?_ | refine xlen ?_ | refine xld rfl ?_ | refine xsto rfl ?_ | refine xno ?_ | refine xt ?_ | refine xf ?_)
    refine xE 6 (.int .i64 ((lo.toNat + (i + 1) : Nat) : Int)) rfl (congrArg (Value.int .i64) (by omega)) ?_
    exact G.fin (i + 1) ⟨by show i + 1 ≤ hi.toNat + 1 - lo.toNat; omega, by show 256 - (i + 1) < 256 - i; omega⟩ ⟨rfl, rfl, rfl, rfl, trivial⟩ (by rw [hb]; exact Ent.refl _)
  · have e : spanN lo.toNat i = W.span lo.toNat hi.toNat := by unfold W.span; congr 1; omega
    rw [e]
    repeat (first | refine xst ?_ | refine xar ?_ | refine xop ?_ | refine xlen ?_ | refine xld rfl ?_ | refine xsto rfl ?_ | refine xno ?_ | refine xt ?_ | refine xf ?_)
    exact xretm [] rfl (.c .nil rfl rfl (partF_all rfl rfl)) ⟨rfl, rfl⟩

/-- '==' of sets. -/
theorem eq_set : EqK pg 83 ty83 :=
  ⟨EqT.arr (j := ty81) ok83 rfl ok81 rfl (.inr rfl) (EqT.int ok81 rfl rfl 9998), rfl, by kernel_rfl⟩
theorem meets_spec (x y : Nat) (hx : x < 2 ^ 256) : Fun Tryd.prog 90 [.agg (setV x).toArray, .agg (setV y).toArray] [] [] fun v H => v = .bool (decide (x &&& y ≠ 0)) ∧ H = [] := by
  refine xenter (p := pg) Tryd.call90 Tryd.func90 fun C => ?_
  repeat (first | refine xst ?_ | refine xar ?_ | refine xop ?_ | refine xlen ?_ | refine xld rfl ?_ | refine xsto rfl ?_ | refine xno ?_ | refine xt ?_ | refine xf ?_)
  refine xnew fun p => ?_
  refine xnew fun q => ?_
  refine xrep 1 (setV x) rfl rfl ?_
  refine xrep 1 (setV y) rfl rfl ?_
  repeat (first | refine xst ?_ | refine xar ?_ | refine xop ?_ | refine xlen ?_ | refine xld rfl ?_ | refine xsto rfl ?_ | refine xno ?_ | refine xt ?_ | refine xf ?_)
  refine xcall (sand_spec x y) ?_
  rintro v H ⟨rfl, rfl⟩
  refine G.app ?_
  repeat (first | refine xst ?_ | refine xar ?_ | refine xop ?_ | refine xlen ?_ | refine xld rfl ?_ | refine xsto rfl ?_ | refine xno ?_ | refine xt ?_ | refine xf ?_)
  have hs : SameK (setV (x &&& y)) (setV 0) := ⟨⟨_, _, _, rfl, rfl⟩, ⟨_, _, _, rfl, rfl⟩, ⟨_, _, _, rfl, rfl⟩, ⟨_, _, _, rfl, rfl⟩, trivial⟩
  refine xeq (xs := setV (x &&& y)) (ys := setV 0) rfl eq_set rfl rfl hs ?_
  refine xE 9 (.bool (decide (x &&& y ≠ 0))) rfl ?_ ?_
  · have h1 := eqIV_iff hs
    have h2 : setV (x &&& y) = setV 0 ↔ x &&& y = 0 := ⟨fun h => setV_inj (Nat.lt_of_le_of_lt Nat.and_le_left hx) (Nat.two_pow_pos 256) h, fun h => by rw [h]⟩
    rw [h2] at h1
    refine congrArg Value.bool ?_
    by_cases h : x &&& y = 0
    · rw [h1.2 h]; simp [h]
    · have : eqIV (setV (x &&& y)) (setV 0) = false := by
        cases hb : eqIV (setV (x &&& y)) (setV 0) with
        | false => rfl
        | true => exact absurd (h1.1 hb) h
      rw [this]; simp [h]
  repeat (first | refine xst ?_ | refine xar ?_ | refine xop ?_ | refine xlen ?_ | refine xld rfl ?_ | refine xsto rfl ?_ | refine xno ?_ | refine xt ?_ | refine xf ?_)
  exact xret [] ⟨rfl, rfl⟩
end Go.Proofs.YthlaacnjgdmakaaDoor

/- gram: signs, forms, grammars, facts. -/
namespace Go.Proofs.YthlaacnjgdmakaaDoor
open Go.W

structure Sg where
  name : Int
  lo : UInt8
  hi : UInt8
def Sg.v (s : Sg) : List Value := [.int .i64 s.name, bV s.lo, bV s.hi]
def sgsV (l : List Sg) : List Value := l.flatMap Sg.v
theorem Sg.v_len (s : Sg) : s.v.length = 3 := rfl
theorem sgsV_len (l : List Sg) : (sgsV l).length = l.length * 3 := flat_length Sg.v_len l
theorem sgsV_one (l : List Sg) : ∀ v ∈ sgsV l, v.oneCell' = true := by
  intro v hv
  obtain ⟨s, _, h⟩ := List.mem_flatMap.1 hv
  simp [Sg.v] at h; rcases h with rfl | rfl | rfl <;> rfl
theorem sgsV_get {l : List Sg} {k : Nat} (h : k < l.length) : ((sgsV l).drop (k * 3)).take 3 = l[k].v := flat_elem Sg.v_len l k h
structure Fm where
  name : Int
  a : Option Addr
  cap : Nat
  body : List Sg
def Fm.v (f : Fm) : List Value := [.int .i64 f.name, .slice f.a f.body.length f.cap]
def fmsV (l : List Fm) : List Value := l.flatMap Fm.v
theorem Fm.v_len (s : Fm) : s.v.length = 2 := rfl
theorem fmsV_len (l : List Fm) : (fmsV l).length = l.length * 2 := flat_length Fm.v_len l
theorem fmsV_one (l : List Fm) : ∀ v ∈ fmsV l, v.oneCell' = true := by
  intro v hv
  obtain ⟨s, _, h⟩ := List.mem_flatMap.1 hv
  simp [Fm.v] at h; rcases h with rfl | rfl <;> rfl
theorem fmsV_get {l : List Fm} {k : Nat} (h : k < l.length) : ((fmsV l).drop (k * 2)).take 2 = l[k].v := flat_elem Fm.v_len l k h
def Fm.rd (f : Fm) : HProp := slR 3 f.a f.body.length f.cap (sgsV f.body)
structure Gr where
  names : Int
  a : Option Addr
  cap : Nat
  fs : List Fm
def Gr.v (g : Gr) : List Value := [.int .i64 g.names, .slice g.a g.fs.length g.cap]
def Gr.rd (g : Gr) : List HProp := slR 2 g.a g.fs.length g.cap (fmsV g.fs) :: g.fs.map Fm.rd

/-! ## Facts -/
structure Fx where
  text : List Bool
  null : List Bool
  first : List Nat
  follow : List Nat
deriving DecidableEq
def blV (l : List Bool) : List Value := l.map .bool
def setsV (l : List Nat) : List Value := l.flatMap setV
theorem blV_len (l : List Bool) : (blV l).length = l.length := by simp [blV]
theorem setsV_len (l : List Nat) : (setsV l).length = l.length * 4 := flat_length setV_len l
def Fx.v (F : Fx) : List Value := blV F.text ++ blV F.null ++ setsV F.first ++ setsV F.follow
structure Fx.ok (F : Fx) : Prop where
  text : F.text.length = 16
  null : F.null.length = 16
  first : F.first.length = 16
  follow : F.follow.length = 16
  lf : ∀ x ∈ F.first, x < 2 ^ 256
  lw : ∀ x ∈ F.follow, x < 2 ^ 256
def Fx.tx (F : Fx) (k : Nat) : Bool := F.text.getD k false
def Fx.nl (F : Fx) (k : Nat) : Bool := F.null.getD k false
def Fx.fi (F : Fx) (k : Nat) : Nat := F.first.getD k 0
def Fx.fo (F : Fx) (k : Nat) : Nat := F.follow.getD k 0
def Fx.zero : Fx := ⟨List.replicate 16 false, List.replicate 16 false, List.replicate 16 0, List.replicate 16 0⟩
theorem getD_lt {α : Type} {l : List α} {k : Nat} {d : α} (h : k < l.length) : l.getD k d = l[k] := by simp [h]
theorem Fx.ok.fi_lt {F : Fx} (h : F.ok) (k : Nat) : F.fi k < 2 ^ 256 := by
  unfold Fx.fi
  by_cases hk : k < F.first.length
  · rw [getD_lt hk]; exact h.lf _ (List.getElem_mem _)
  · rw [List.getD_eq_getElem?_getD, List.getElem?_eq_none (by omega)]; exact Nat.two_pow_pos 256
theorem Fx.ok.fo_lt {F : Fx} (h : F.ok) (k : Nat) : F.fo k < 2 ^ 256 := by
  unfold Fx.fo
  by_cases hk : k < F.follow.length
  · rw [getD_lt hk]; exact h.lw _ (List.getElem_mem _)
  · rw [List.getD_eq_getElem?_getD, List.getElem?_eq_none (by omega)]; exact Nat.two_pow_pos 256
theorem Fx.v_len {F : Fx} (h : F.ok) : F.v.length = 160 := by
  simp only [Fx.v, List.length_append, blV_len, setsV_len, h.text, h.null, h.first, h.follow]
theorem Fx.v_one (F : Fx) : ∀ v ∈ F.v, v.oneCell' = true := by
  intro v hv
  have hb : ∀ l : List Bool, v ∈ blV l → v.oneCell' = true := fun l h => by obtain ⟨b, _, rfl⟩ := List.mem_map.1 h; rfl
  have hs : ∀ l : List Nat, v ∈ setsV l → v.oneCell' = true := fun l h => by obtain ⟨x, _, h'⟩ := List.mem_flatMap.1 h; exact setV_one x v h'
  simp only [Fx.v, List.mem_append] at hv
  rcases hv with ((h | h) | h) | h
  · exact hb _ h
  · exact hb _ h
  · exact hs _ h
  · exact hs _ h
theorem Fx.v_tx {F : Fx} (h : F.ok) {k : Nat} (hk : k < 16) : F.v[k]? = some (.bool (F.tx k)) := by
  have h1 : k < (blV F.text).length := by rw [blV_len, h.text]; exact hk
  unfold Fx.v Fx.tx
  rw [List.append_assoc, List.append_assoc, List.getElem?_append_left h1, getD_lt (by rw [h.text]; exact hk)]
  simp [blV, h.text, hk]
theorem Fx.v_nl {F : Fx} (h : F.ok) {k : Nat} (hk : k < 16) : F.v[16 + k]? = some (.bool (F.nl k)) := by
  unfold Fx.v Fx.nl
  rw [List.append_assoc, List.append_assoc, List.getElem?_append_right (by rw [blV_len, h.text]; omega), blV_len, h.text, Nat.add_sub_cancel_left,
    List.getElem?_append_left (by rw [blV_len, h.null]; exact hk), getD_lt (by rw [h.null]; exact hk)]
  simp [blV, h.null, hk]
theorem Fx.v_fi {F : Fx} (h : F.ok) {k : Nat} (hk : k < 16) : (F.v.drop (32 + k * 4)).take 4 = setV (F.fi k) := by
  unfold Fx.v Fx.fi
  have e : ((setsV F.first).drop (k * 4)).take 4 = setV (F.first[k]'(by rw [h.first]; exact hk)) := flat_elem setV_len F.first k (by rw [h.first]; exact hk)
  rw [getD_lt (by rw [h.first]; exact hk), ← e, List.append_assoc, List.drop_append, List.drop_eq_nil_of_le (by rw [List.length_append, blV_len, blV_len, h.text, h.null]; omega), List.nil_append,
    List.length_append, blV_len, blV_len, h.text, h.null, Nat.add_sub_cancel_left, List.drop_append_of_le_length (by rw [setsV_len, h.first]; omega), List.take_append_of_le_length (by rw [List.length_drop, setsV_len, h.first]; omega)]
theorem Fx.v_fo {F : Fx} (h : F.ok) {k : Nat} (hk : k < 16) : (F.v.drop (96 + k * 4)).take 4 = setV (F.fo k) := by
  unfold Fx.v Fx.fo
  have e : ((setsV F.follow).drop (k * 4)).take 4 = setV (F.follow[k]'(by rw [h.follow]; exact hk)) := flat_elem setV_len F.follow k (by rw [h.follow]; exact hk)
  rw [getD_lt (by rw [h.follow]; exact hk), ← e, List.drop_append, List.drop_eq_nil_of_le (by simp only [List.length_append, blV_len, setsV_len, h.text, h.null, h.first]; omega), List.nil_append]
  simp only [List.length_append, blV_len, setsV_len, h.text, h.null, h.first]
  rw [show 96 + k * 4 - (16 + 16 + 16 * 4) = k * 4 by omega]
def Fx.setTx (F : Fx) (k : Nat) (b : Bool) : Fx := { F with text := F.text.set k b }
def Fx.setNl (F : Fx) (k : Nat) (b : Bool) : Fx := { F with null := F.null.set k b }
def Fx.setFi (F : Fx) (k : Nat) (x : Nat) : Fx := { F with first := F.first.set k x }
def Fx.setFo (F : Fx) (k : Nat) (x : Nat) : Fx := { F with follow := F.follow.set k x }
theorem Fx.v_setTx {F : Fx} (h : F.ok) {k : Nat} (hk : k < 16) (b : Bool) : F.v.set k (.bool b) = (F.setTx k b).v := by
  unfold Fx.v Fx.setTx
  have e : blV (F.text.set k b) = (blV F.text).set k (.bool b) := by simp [blV, List.map_set]
  simp only [e]
  rw [List.append_assoc, List.append_assoc, List.append_assoc, List.append_assoc, List.set_append_left _ _ (by rw [blV_len, h.text]; exact hk)]
theorem Fx.v_setNl {F : Fx} (h : F.ok) {k : Nat} (hk : k < 16) (b : Bool) : F.v.set (16 + k) (.bool b) = (F.setNl k b).v := by
  unfold Fx.v Fx.setNl
  have e : blV (F.null.set k b) = (blV F.null).set k (.bool b) := by simp [blV, List.map_set]
  simp only [e]
  rw [List.append_assoc, List.append_assoc, List.append_assoc, List.append_assoc, List.set_append_right _ _ (by rw [blV_len, h.text]; omega), blV_len, h.text, Nat.add_sub_cancel_left, List.set_append_left _ _ (by rw [blV_len, h.null]; exact hk)]
theorem drop_len {A B : List Value} {n : Nat} (hA : A.length = n) (j : Nat) : (A ++ B).drop (n + j) = B.drop j := by
  rw [List.drop_append, List.drop_eq_nil_of_le (by omega), List.nil_append, hA, Nat.add_sub_cancel_left]
theorem take_len {A B : List Value} {n : Nat} (hA : A.length = n) (j : Nat) : (A ++ B).take (n + j) = A ++ B.take j := by
  rw [List.take_append, List.take_of_length_le (by omega), hA, Nat.add_sub_cancel_left]
theorem mid_put {A B D : List Value} {n : Nat} (hA : A.length = n) {k m : Nat} (xs : List Value) (hB : k + m ≤ B.length) : (A ++ B ++ D).take (n + k) ++ xs ++ (A ++ B ++ D).drop (n + k + m) = A ++ (B.take k ++ xs ++ B.drop (k + m)) ++ D := by
  rw [List.append_assoc A B D, take_len hA, Nat.add_assoc, drop_len hA, List.take_append_of_le_length (by omega), List.drop_append_of_le_length (by omega)]
  simp only [List.append_assoc]
theorem flat_set {α : Type} {f : α → List Value} {s : Nat} (hf : ∀ x, (f x).length = s) : ∀ (l : List α) (k : Nat) (y : α), k < l.length → (l.flatMap f).take (k * s) ++ f y ++ (l.flatMap f).drop (k * s + s) = (l.set k y).flatMap f
  | x :: l, 0, y, _ => by
    rw [List.set_cons_zero, List.flatMap_cons, List.flatMap_cons, Nat.zero_mul, List.take_zero, List.nil_append, Nat.add_comm, drop_len (hf x)]; rfl
  | x :: l, k + 1, y, h => by
    have ih := flat_set hf l k y (by simpa using h)
    rw [List.set_cons_succ, List.flatMap_cons, List.flatMap_cons, ← ih, Nat.succ_mul, Nat.add_comm (k * s) s, Nat.add_assoc s, take_len (hf x), drop_len (hf x), Nat.add_comm s (k * s)]
    simp only [List.append_assoc]
theorem Fx.v_setFi {F : Fx} (h : F.ok) {k : Nat} (hk : k < 16) (x : Nat) : F.v.take (32 + k * 4) ++ setV x ++ F.v.drop (32 + k * 4 + 4) = (F.setFi k x).v := by
  unfold Fx.v Fx.setFi
  have e : setsV (F.first.set k x) = _ := (flat_set setV_len F.first k x (by rw [h.first]; exact hk)).symm
  simp only [e]
  have hl : (blV F.text ++ blV F.null).length = 32 := by rw [List.length_append, blV_len, blV_len, h.text, h.null]
  have hs : (setsV F.first).length = 64 := by rw [setsV_len, h.first]
  rw [show F.first.flatMap setV = setsV F.first from rfl]
  generalize blV F.text ++ blV F.null = A at hl ⊢
  generalize setsV F.first = B at hs ⊢
  generalize setsV F.follow = D
  exact mid_put hl _ (by omega)
theorem Fx.v_setFo {F : Fx} (h : F.ok) {k : Nat} (hk : k < 16) (x : Nat) : F.v.take (96 + k * 4) ++ setV x ++ F.v.drop (96 + k * 4 + 4) = (F.setFo k x).v := by
  unfold Fx.v Fx.setFo
  have e : setsV (F.follow.set k x) = _ := (flat_set setV_len F.follow k x (by rw [h.follow]; exact hk)).symm
  simp only [e]
  have hl : (blV F.text ++ blV F.null ++ setsV F.first).length = 96 := by simp only [List.length_append, blV_len, setsV_len, h.text, h.null, h.first]
  rw [show F.follow.flatMap setV = setsV F.follow from rfl]
  generalize blV F.text ++ blV F.null ++ setsV F.first = A at hl ⊢
  have := mid_put (D := []) hl (k := k * 4) (m := 4) (B := setsV F.follow) (setV x) (by rw [setsV_len, h.follow]; omega)
  rw [List.append_nil, List.append_nil] at this
  exact this
theorem Fx.ok.setTx {F : Fx} (h : F.ok) (k : Nat) (b : Bool) : (F.setTx k b).ok := ⟨by simp [Fx.setTx, h.text], h.null, h.first, h.follow, h.lf, h.lw⟩
theorem Fx.ok.setNl {F : Fx} (h : F.ok) (k : Nat) (b : Bool) : (F.setNl k b).ok := ⟨h.text, by simp [Fx.setNl, h.null], h.first, h.follow, h.lf, h.lw⟩
theorem Fx.ok.setFi {F : Fx} (h : F.ok) (k : Nat) {x : Nat} (hx : x < 2 ^ 256) : (F.setFi k x).ok := ⟨h.text, h.null, by simp [Fx.setFi, h.first], h.follow, fun y hy => (List.mem_or_eq_of_mem_set hy).elim (h.lf y) (fun e => e ▸ hx), h.lw⟩
theorem Fx.ok.setFo {F : Fx} (h : F.ok) (k : Nat) {x : Nat} (hx : x < 2 ^ 256) : (F.setFo k x).ok := ⟨h.text, h.null, h.first, by simp [Fx.setFo, h.follow], h.lf, fun y hy => (List.mem_or_eq_of_mem_set hy).elim (h.lw y) (fun e => e ▸ hx)⟩
theorem Fx.ok_zero : Fx.zero.ok := ⟨rfl, rfl, rfl, rfl, by intro x hx; simp [Fx.zero] at hx; rw [hx]; exact Nat.two_pow_pos 256, by intro x hx; simp [Fx.zero] at hx; rw [hx]; exact Nat.two_pow_pos 256⟩

/-! ## Bodies -/
def vanF (F : Fx) (body : List Sg) : Bool := body.all fun s => decide (0 ≤ s.name) && F.nl s.name.toNat
def derF (F : Fx) (body : List Sg) : Bool := body.all fun s => if s.name < 0 then decide (s.lo.toNat ≤ s.hi.toNat) else F.tx s.name.toNat
def startF (F : Fx) : List Sg → Nat
  | [] => 0
  | s :: r => if s.name < 0 then W.span s.lo.toNat s.hi.toNat else F.fi s.name.toNat ||| (if F.nl s.name.toNat then startF F r else 0)
theorem startF_lt {F : Fx} (h : F.ok) : ∀ body, startF F body < 2 ^ 256
  | [] => Nat.two_pow_pos 256
  | s :: r => by
    unfold startF
    split
    · exact span_lt _ _
    · refine Nat.or_lt_two_pow (h.fi_lt _) ?_
      split
      · exact startF_lt h r
      · exact Nat.two_pow_pos 256
end Go.Proofs.YthlaacnjgdmakaaDoor

/- gram: vanishes, derives, start. -/
namespace Go.Proofs.YthlaacnjgdmakaaDoor
open Go.W

theorem vanF_cons (F : Fx) (s : Sg) (l : List Sg) : vanF F (s :: l) = ((decide (0 ≤ s.name) && F.nl s.name.toNat) && vanF F l) := rfl
theorem vanishes_spec (F : Fx) (hF : F.ok) (fb : Nat) (a : Option Addr) (cap : Nat) (body : List Sg) (hb : ∀ s ∈ body, s.name < 16) (hl : body.length ≤ 1000000) : Fun Tryd.prog 62 [.pointer (some ⟨fb, 0, none⟩), .slice a body.length cap]
    [rdb fb F.v, slR 3 a body.length cap (sgsV body)] [] fun v H => v = .bool (vanF F body) ∧ H = [] := by
  refine xenter (p := pg) Tryd.call62 Tryd.func62 fun C => ?_
  haveI := RP.rdb (RP.of C (X := rdb fb F.v) (by simp))
  have hr := RP.slR (RP.of C (X := slR 3 a body.length cap (sgsV body)) (by simp))
  repeat (first | refine xst ?_ | refine xar ?_ | refine xop ?_ | refine xlen ?_ | refine xld rfl ?_ | refine xsto rfl ?_ | refine xno ?_ | refine xt ?_ | refine xf ?_ | refine xnu ?_)
  refine G.loop (σ := Nat) (fun i => [(0, .pointer (some ⟨fb, 0, none⟩)), (7, .slice a body.length cap), (8, .int .i64 (body.length : Int)), (9, .int .i64 (i : Int))])
    (fun _ => []) (fun i => i ≤ body.length ∧ vanF F body = vanF F (body.drop i)) (fun i => body.length - i) 0 ⟨Nat.zero_le _, rfl⟩ ⟨rfl, rfl, rfl, rfl, trivial⟩ (Ent.refl _) ?_
  rintro i ⟨hi, hv⟩
  have hi : i ≤ body.length := hi
  show G C _ [(0, .pointer (some ⟨fb, 0, none⟩)), (7, .slice a body.length cap), (8, .int .i64 (body.length : Int)), (9, .int .i64 (i : Int))] []
  repeat (first | refine xst ?_ | refine xar ?_ | refine xop ?_ | refine xlen ?_ | refine xld rfl ?_ | refine xsto rfl ?_ | refine xno ?_ | refine xt ?_ | refine xf ?_ | refine xnu ?_)
  refine xd (q := (i : Int) < (body.length : Int)) (fun h => ?_) (fun h => ?_)
  · have h : i < body.length := by omega
    obtain ⟨bb, bo, rfl, _⟩ := hr.some (by omega)
    have hg := sgsV_get h
    have hd : body.drop i = body[i] :: body.drop (i + 1) := List.drop_eq_getElem_cons h
    have h16 := hb _ (List.getElem_mem h)
    rw [hd, vanF_cons] at hv
    generalize body[i] = s at hg hd h16 hv
    obtain ⟨nm, lo, hi'⟩ := s
    simp only at h16 hv
    repeat (first | refine xst ?_ | refine xar ?_ | refine xop ?_ | refine xlen ?_ | refine xld rfl ?_ | refine xsto rfl ?_ | refine xno ?_ | refine xt ?_ | refine xf ?_ | refine xnu ?_)
    refine xix ?_ (hk := h)
    refine xldla rfl (i * 3) (Sg.v ⟨nm, lo, hi'⟩) rfl hg (by rw [sgsV_len]; show i * 3 + 3 ≤ _; omega) ?_
    repeat (first | refine xst ?_ | refine xar ?_ | refine xop ?_ | refine xlen ?_ | refine xld rfl ?_ | refine xsto rfl ?_ | refine xno ?_ | refine xt ?_ | refine xf ?_ | refine xnu ?_)
    refine xnew fun p => ?_
    repeat (first | refine xst ?_ | refine xar ?_ | refine xop ?_ | refine xlen ?_ | refine xld rfl ?_ | refine xsto rfl ?_ | refine xno ?_ | refine xt ?_ | refine xf ?_ | refine xnu ?_)
    by_cases hn : nm < 0
    · skip
      refine xdraw ?_
      refine xdop 0 ?_
      refine xdld 1 rfl rfl ?_
      refine xdop 2 ?_
      refine xE 15 (.bool true) rfl (congrArg Value.bool (decide_eq_true hn)) ?_
      refine xdop 3 ?_
      (first | refine xdno 4 ?_ | refine xdop 4 ?_ | refine xdnu 4 ?_)
      (first | refine xdno 5 ?_ | refine xdop 5 ?_ | refine xdnu 5 ?_)
      (first | refine xdno 6 ?_ | refine xdld 6 rfl rfl ?_ | refine xdnu 6 ?_)
      (first | refine xdno 7 ?_ | refine xdop 7 ?_ | refine xdnu 7 ?_)
      (first | refine xdno 8 ?_ | refine xdop 8 ?_ | refine xdnu 8 ?_)
      (first | refine xdno 9 ?_ | refine xdix 9 ?_ (hk := by first | omega | exact Nat.le_of_ble_eq_true rfl) | refine xdnu 9 ?_)
      (first | refine xdno 10 ?_ | refine xdld 10 rfl rfl ?_ | refine xdnu 10 ?_)
      (first | refine xdno 11 ?_ | refine xdop 11 ?_ | refine xdnu 11 ?_)
      refine xdop 12 ?_
      refine xdend ?_
      repeat (first | refine xst ?_ | refine xar ?_ | refine xop ?_ | refine xlen ?_ | refine xld rfl ?_ | refine xsto rfl ?_ | refine xno ?_ | refine xt ?_ | refine xf ?_ | refine xnu ?_)
      refine xret [] ⟨?_, rfl⟩
      rw [hv, decide_eq_false (by omega)]; rfl
    · obtain ⟨k, rfl⟩ : ∃ k : Nat, nm = k := ⟨nm.toNat, by omega⟩
      have hk : k < 16 := by omega
      refine xdraw ?_
      refine xdop 0 ?_
      refine xdld 1 rfl rfl ?_
      refine xdop 2 ?_
      refine xE 15 (.bool false) rfl (congrArg Value.bool (decide_eq_false hn)) ?_
      refine xdop 3 ?_
      (first | refine xdno 4 ?_ | refine xdop 4 ?_ | refine xdnu 4 ?_)
      (first | refine xdno 5 ?_ | refine xdop 5 ?_ | refine xdnu 5 ?_)
      (first | refine xdno 6 ?_ | refine xdld 6 rfl rfl ?_ | refine xdnu 6 ?_)
      (first | refine xdno 7 ?_ | refine xdop 7 ?_ | refine xdnu 7 ?_)
      (first | refine xdno 8 ?_ | refine xdop 8 ?_ | refine xdnu 8 ?_)
      (first | refine xdno 9 ?_ | refine xdix 9 ?_ (hk := by first | omega | exact Nat.le_of_ble_eq_true rfl) | refine xdnu 9 ?_)
      refine xdld 10 rfl rfl ?_ (hv := Fx.v_nl hF hk)
      (first | refine xdno 11 ?_ | refine xdop 11 ?_ | refine xdnu 11 ?_)
      refine xdop 12 ?_
      refine xdend ?_
      rw [show (decide (0 ≤ ((k : Nat) : Int)) && F.nl ((k : Nat) : Int).toNat) = F.nl k by simp] at hv
      cases hb : F.nl k with
      | false =>
        repeat (first | refine xst ?_ | refine xar ?_ | refine xop ?_ | refine xlen ?_ | refine xld rfl ?_ | refine xsto rfl ?_ | refine xno ?_ | refine xt ?_ | refine xf ?_ | refine xnu ?_)
        refine xret [] ⟨?_, rfl⟩
        rw [hv, hb]; rfl
      | true =>
        repeat (first | refine xst ?_ | refine xar ?_ | refine xop ?_ | refine xlen ?_ | refine xld rfl ?_ | refine xsto rfl ?_ | refine xno ?_ | refine xt ?_ | refine xf ?_ | refine xnu ?_)
        exact G.fin (i + 1) ⟨⟨by show i + 1 ≤ _; omega, by rw [hv, hb]; rfl⟩, by show body.length - (i + 1) < body.length - i; omega⟩ ⟨rfl, rfl, rfl, rfl, trivial⟩ ent_pick
  · repeat (first | refine xst ?_ | refine xar ?_ | refine xop ?_ | refine xlen ?_ | refine xld rfl ?_ | refine xsto rfl ?_ | refine xno ?_ | refine xt ?_ | refine xf ?_ | refine xnu ?_)
    refine xret [] ⟨?_, rfl⟩
    rw [hv, List.drop_eq_nil_of_le (by omega)]; rfl
theorem derF_cons (F : Fx) (s : Sg) (l : List Sg) : derF F (s :: l) = ((if s.name < 0 then decide (s.lo.toNat ≤ s.hi.toNat) else F.tx s.name.toNat) && derF F l) := rfl
theorem derives_spec (F : Fx) (hF : F.ok) (fb : Nat) (a : Option Addr) (cap : Nat) (body : List Sg) (hb : ∀ s ∈ body, s.name < 16) (hl : body.length ≤ 1000000) : Fun Tryd.prog 86 [.pointer (some ⟨fb, 0, none⟩), .slice a body.length cap]
    [rdb fb F.v, slR 3 a body.length cap (sgsV body)] [] fun v H => v = .bool (derF F body) ∧ H = [] := by
  refine xenter (p := pg) Tryd.call86 Tryd.func86 fun C => ?_
  haveI := RP.rdb (RP.of C (X := rdb fb F.v) (by simp))
  have hr := RP.slR (RP.of C (X := slR 3 a body.length cap (sgsV body)) (by simp))
  repeat (first | refine xst ?_ | refine xar ?_ | refine xop ?_ | refine xlen ?_ | refine xld rfl ?_ | refine xsto rfl ?_ | refine xno ?_ | refine xt ?_ | refine xf ?_ | refine xnu ?_)
  refine G.loop (σ := Nat) (fun i => [(0, .pointer (some ⟨fb, 0, none⟩)), (7, .slice a body.length cap), (8, .int .i64 (body.length : Int)), (9, .int .i64 (i : Int))])
    (fun _ => []) (fun i => i ≤ body.length ∧ derF F body = derF F (body.drop i)) (fun i => body.length - i) 0 ⟨Nat.zero_le _, rfl⟩ ⟨rfl, rfl, rfl, rfl, trivial⟩ (Ent.refl _) ?_
  rintro i ⟨hi, hv⟩
  have hi : i ≤ body.length := hi
  show G C _ [(0, .pointer (some ⟨fb, 0, none⟩)), (7, .slice a body.length cap), (8, .int .i64 (body.length : Int)), (9, .int .i64 (i : Int))] []
  repeat (first | refine xst ?_ | refine xar ?_ | refine xop ?_ | refine xlen ?_ | refine xld rfl ?_ | refine xsto rfl ?_ | refine xno ?_ | refine xt ?_ | refine xf ?_ | refine xnu ?_)
  refine xd (q := (i : Int) < (body.length : Int)) (fun h => ?_) (fun h => ?_)
  · have h : i < body.length := by omega
    obtain ⟨bb, bo, rfl, _⟩ := hr.some (by omega)
    have hg := sgsV_get h
    have hd : body.drop i = body[i] :: body.drop (i + 1) := List.drop_eq_getElem_cons h
    have h16 := hb _ (List.getElem_mem h)
    rw [hd, derF_cons] at hv
    generalize body[i] = s at hg hd h16 hv
    obtain ⟨nm, lo, hi'⟩ := s
    simp only at h16 hv
    repeat (first | refine xst ?_ | refine xar ?_ | refine xop ?_ | refine xlen ?_ | refine xld rfl ?_ | refine xsto rfl ?_ | refine xno ?_ | refine xt ?_ | refine xf ?_ | refine xnu ?_)
    refine xix ?_ (hk := h)
    refine xldla rfl (i * 3) (Sg.v ⟨nm, lo, hi'⟩) rfl hg (by rw [sgsV_len]; show i * 3 + 3 ≤ _; omega) ?_
    repeat (first | refine xst ?_ | refine xar ?_ | refine xop ?_ | refine xlen ?_ | refine xld rfl ?_ | refine xsto rfl ?_ | refine xno ?_ | refine xt ?_ | refine xf ?_ | refine xnu ?_)
    refine xnew fun p => ?_
    repeat (first | refine xst ?_ | refine xar ?_ | refine xop ?_ | refine xlen ?_ | refine xld rfl ?_ | refine xsto rfl ?_ | refine xno ?_ | refine xt ?_ | refine xf ?_ | refine xnu ?_)
    by_cases hn : nm < 0
    · rw [if_pos hn] at hv
      by_cases hlh : lo.toNat ≤ hi'.toNat
      · skip
        refine xdraw ?_
        refine xdop 0 ?_
        refine xdld 1 rfl rfl ?_
        refine xdop 2 ?_
        refine xE 15 (.bool true) rfl (congrArg Value.bool (decide_eq_true hn)) ?_
        refine xdop 3 ?_
        (first | refine xdno 4 ?_ | refine xdop 4 ?_ | refine xdnu 4 ?_)
        (first | refine xdno 5 ?_ | refine xdld 5 rfl rfl ?_ | refine xdnu 5 ?_)
        (first | refine xdno 6 ?_ | refine xdop 6 ?_ | refine xdnu 6 ?_)
        (first | refine xdno 7 ?_ | refine xdld 7 rfl rfl ?_ | refine xdnu 7 ?_)
        (first | refine xdno 8 ?_ | refine xdop 8 ?_ | refine xdnu 8 ?_)
        refine xE 21 (.bool false) rfl (congrArg Value.bool (decide_eq_false (show ¬ ((hi'.toNat : Int) < (lo.toNat : Int)) by omega))) ?_
        refine xdop 9 ?_
        refine xdop 10 ?_
        (first | refine xdno 11 ?_ | refine xdop 11 ?_ | refine xdnu 11 ?_)
        (first | refine xdno 12 ?_ | refine xdld 12 rfl rfl ?_ | refine xdnu 12 ?_)
        (first | refine xdno 13 ?_ | refine xdop 13 ?_ | refine xdnu 13 ?_)
        refine xE 26 (.bool false) rfl (congrArg Value.bool (decide_eq_false (show ¬ ((0 : Int) ≤ nm) by omega))) ?_
        (first | refine xdno 14 ?_ | refine xdop 14 ?_ | refine xdnu 14 ?_)
        (first | refine xdno 15 ?_ | refine xdop 15 ?_ | refine xdnu 15 ?_)
        (first | refine xdno 16 ?_ | refine xdop 16 ?_ | refine xdnu 16 ?_)
        (first | refine xdno 17 ?_ | refine xdld 17 rfl rfl ?_ | refine xdnu 17 ?_)
        (first | refine xdno 18 ?_ | refine xdop 18 ?_ | refine xdnu 18 ?_)
        (first | refine xdno 19 ?_ | refine xdop 19 ?_ | refine xdnu 19 ?_)
        (first | refine xdno 20 ?_ | refine xdix 20 ?_ (hk := by first | omega | exact Nat.le_of_ble_eq_true rfl) | refine xdnu 20 ?_)
        (first | refine xdno 21 ?_ | refine xdld 21 rfl rfl ?_ | refine xdnu 21 ?_)
        (first | refine xdno 22 ?_ | refine xdop 22 ?_ | refine xdnu 22 ?_)
        (first | refine xdno 23 ?_ | refine xdop 23 ?_ | refine xdnu 23 ?_)
        refine xdop 24 ?_
        refine xdend ?_
        repeat (first | refine xst ?_ | refine xar ?_ | refine xop ?_ | refine xlen ?_ | refine xld rfl ?_ | refine xsto rfl ?_ | refine xno ?_ | refine xt ?_ | refine xf ?_ | refine xnu ?_)
        exact G.fin (i + 1) ⟨⟨by show i + 1 ≤ _; omega, by rw [hv, decide_eq_true hlh]; rfl⟩, by show body.length - (i + 1) < body.length - i; omega⟩ ⟨rfl, rfl, rfl, rfl, trivial⟩ ent_pick
      · skip
        refine xdraw ?_
        refine xdop 0 ?_
        refine xdld 1 rfl rfl ?_
        refine xdop 2 ?_
        refine xE 15 (.bool true) rfl (congrArg Value.bool (decide_eq_true hn)) ?_
        refine xdop 3 ?_
        (first | refine xdno 4 ?_ | refine xdop 4 ?_ | refine xdnu 4 ?_)
        (first | refine xdno 5 ?_ | refine xdld 5 rfl rfl ?_ | refine xdnu 5 ?_)
        (first | refine xdno 6 ?_ | refine xdop 6 ?_ | refine xdnu 6 ?_)
        (first | refine xdno 7 ?_ | refine xdld 7 rfl rfl ?_ | refine xdnu 7 ?_)
        (first | refine xdno 8 ?_ | refine xdop 8 ?_ | refine xdnu 8 ?_)
        refine xE 21 (.bool true) rfl (congrArg Value.bool (decide_eq_true (show (hi'.toNat : Int) < (lo.toNat : Int) by omega))) ?_
        refine xdop 9 ?_
        refine xdop 10 ?_
        (first | refine xdno 11 ?_ | refine xdop 11 ?_ | refine xdnu 11 ?_)
        (first | refine xdno 12 ?_ | refine xdld 12 rfl rfl ?_ | refine xdnu 12 ?_)
        (first | refine xdno 13 ?_ | refine xdop 13 ?_ | refine xdnu 13 ?_)
        (first | refine xdno 14 ?_ | refine xdop 14 ?_ | refine xdnu 14 ?_)
        (first | refine xdno 15 ?_ | refine xdop 15 ?_ | refine xdnu 15 ?_)
        (first | refine xdno 16 ?_ | refine xdop 16 ?_ | refine xdnu 16 ?_)
        (first | refine xdno 17 ?_ | refine xdld 17 rfl rfl ?_ | refine xdnu 17 ?_)
        (first | refine xdno 18 ?_ | refine xdop 18 ?_ | refine xdnu 18 ?_)
        (first | refine xdno 19 ?_ | refine xdop 19 ?_ | refine xdnu 19 ?_)
        (first | refine xdno 20 ?_ | refine xdix 20 ?_ (hk := by first | omega | exact Nat.le_of_ble_eq_true rfl) | refine xdnu 20 ?_)
        (first | refine xdno 21 ?_ | refine xdld 21 rfl rfl ?_ | refine xdnu 21 ?_)
        (first | refine xdno 22 ?_ | refine xdop 22 ?_ | refine xdnu 22 ?_)
        (first | refine xdno 23 ?_ | refine xdop 23 ?_ | refine xdnu 23 ?_)
        refine xdop 24 ?_
        refine xdend ?_
        repeat (first | refine xst ?_ | refine xar ?_ | refine xop ?_ | refine xlen ?_ | refine xld rfl ?_ | refine xsto rfl ?_ | refine xno ?_ | refine xt ?_ | refine xf ?_ | refine xnu ?_)
        refine xret [] ⟨?_, rfl⟩
        rw [hv, decide_eq_false hlh]; rfl
    · obtain ⟨k, rfl⟩ : ∃ k : Nat, nm = k := ⟨nm.toNat, by omega⟩
      have hk : k < 16 := by omega
      rw [if_neg hn, Int.toNat_natCast] at hv
      refine xdraw ?_
      refine xdop 0 ?_
      refine xdld 1 rfl rfl ?_
      refine xdop 2 ?_
      refine xE 15 (.bool false) rfl (congrArg Value.bool (decide_eq_false hn)) ?_
      refine xdop 3 ?_
      (first | refine xdno 4 ?_ | refine xdop 4 ?_ | refine xdnu 4 ?_)
      (first | refine xdno 5 ?_ | refine xdld 5 rfl rfl ?_ | refine xdnu 5 ?_)
      (first | refine xdno 6 ?_ | refine xdop 6 ?_ | refine xdnu 6 ?_)
      (first | refine xdno 7 ?_ | refine xdld 7 rfl rfl ?_ | refine xdnu 7 ?_)
      (first | refine xdno 8 ?_ | refine xdop 8 ?_ | refine xdnu 8 ?_)
      refine xdop 9 ?_
      refine xdop 10 ?_
      (first | refine xdno 11 ?_ | refine xdop 11 ?_ | refine xdnu 11 ?_)
      (first | refine xdno 12 ?_ | refine xdld 12 rfl rfl ?_ | refine xdnu 12 ?_)
      (first | refine xdno 13 ?_ | refine xdop 13 ?_ | refine xdnu 13 ?_)
      refine xE 26 (.bool true) rfl (congrArg Value.bool (decide_eq_true (show (0 : Int) ≤ ((k : Nat) : Int) by omega))) ?_
      (first | refine xdno 14 ?_ | refine xdop 14 ?_ | refine xdnu 14 ?_)
      (first | refine xdno 15 ?_ | refine xdop 15 ?_ | refine xdnu 15 ?_)
      (first | refine xdno 16 ?_ | refine xdop 16 ?_ | refine xdnu 16 ?_)
      (first | refine xdno 17 ?_ | refine xdld 17 rfl rfl ?_ | refine xdnu 17 ?_)
      (first | refine xdno 18 ?_ | refine xdop 18 ?_ | refine xdnu 18 ?_)
      (first | refine xdno 19 ?_ | refine xdop 19 ?_ | refine xdnu 19 ?_)
      (first | refine xdno 20 ?_ | refine xdix 20 ?_ (hk := by first | omega | exact Nat.le_of_ble_eq_true rfl) | refine xdnu 20 ?_)
      refine xEp 33 k rfl (by show 0 + 0 + k = k; omega) ?_
      refine xdld 21 rfl rfl ?_ (hv := Fx.v_tx hF hk)
      (first | refine xdno 22 ?_ | refine xdop 22 ?_ | refine xdnu 22 ?_)
      (first | refine xdno 23 ?_ | refine xdop 23 ?_ | refine xdnu 23 ?_)
      refine xdop 24 ?_
      refine xdend ?_
      cases hb : F.tx k with
      | false =>
        repeat (first | refine xst ?_ | refine xar ?_ | refine xop ?_ | refine xlen ?_ | refine xld rfl ?_ | refine xsto rfl ?_ | refine xno ?_ | refine xt ?_ | refine xf ?_ | refine xnu ?_)
        refine xret [] ⟨?_, rfl⟩
        rw [hv, hb]; rfl
      | true =>
        repeat (first | refine xst ?_ | refine xar ?_ | refine xop ?_ | refine xlen ?_ | refine xld rfl ?_ | refine xsto rfl ?_ | refine xno ?_ | refine xt ?_ | refine xf ?_ | refine xnu ?_)
        exact G.fin (i + 1) ⟨⟨by show i + 1 ≤ _; omega, by rw [hv, hb]; rfl⟩, by show body.length - (i + 1) < body.length - i; omega⟩ ⟨rfl, rfl, rfl, rfl, trivial⟩ ent_pick
  · repeat (first | refine xst ?_ | refine xar ?_ | refine xop ?_ | refine xlen ?_ | refine xld rfl ?_ | refine xsto rfl ?_ | refine xno ?_ | refine xt ?_ | refine xf ?_ | refine xnu ?_)
    refine xret [] ⟨?_, rfl⟩
    rw [hv, List.drop_eq_nil_of_le (by omega)]; rfl

theorem startF_cons (F : Fx) (s : Sg) (l : List Sg) : startF F (s :: l) = if s.name < 0 then W.span s.lo.toNat s.hi.toNat else F.fi s.name.toNat ||| (if F.nl s.name.toNat then startF F l else 0) := rfl
/-- A first set, read whole. -/
theorem Fx.fi_part {F : Fx} (h : F.ok) {k : Nat} (hk : k < 16) {i : TI} (ha : i.agg = true) (hs : i.size = 4) : partF i F.v (0 + 32 + k * 4) = some (.agg (setV (F.fi k)).toArray) := by
  rw [partF_agg ha (by rw [Fx.v_len h, hs]; omega), hs, Nat.zero_add, Fx.v_fi h hk]
theorem Fx.fo_part {F : Fx} (h : F.ok) {k : Nat} (hk : k < 16) {i : TI} (ha : i.agg = true) (hs : i.size = 4) : partF i F.v (0 + 96 + k * 4) = some (.agg (setV (F.fo k)).toArray) := by
  rw [partF_agg ha (by rw [Fx.v_len h, hs]; omega), hs, Nat.zero_add, Fx.v_fo h hk]
theorem start_spec (F : Fx) (hF : F.ok) (fb : Nat) (a : Option Addr) (cap : Nat) (body : List Sg) (hb : ∀ s ∈ body, s.name < 16) (hl : body.length ≤ 1000000) : Fun Tryd.prog 63 [.pointer (some ⟨fb, 0, none⟩), .slice a body.length cap]
    [rdb fb F.v, slR 3 a body.length cap (sgsV body)] [] fun v H => v = .agg (setV (startF F body)).toArray ∧ H = [] := by
  refine xenter (p := pg) Tryd.call63 Tryd.func63 fun C => ?_
  haveI := RP.rdb (RP.of C (X := rdb fb F.v) (by simp))
  have hr := RP.slR (RP.of C (X := slR 3 a body.length cap (sgsV body)) (by simp))
  repeat (first | refine xst ?_ | refine xar ?_ | refine xop ?_ | refine xlen ?_ | refine xld rfl ?_ | refine xsto rfl ?_ | refine xno ?_ | refine xt ?_ | refine xf ?_ | refine xnu ?_)
  refine xnew fun p4 => ?_
  refine xrep 0 (setV 0) rfl rfl ?_
  repeat (first | refine xst ?_ | refine xar ?_ | refine xop ?_ | refine xlen ?_ | refine xld rfl ?_ | refine xsto rfl ?_ | refine xno ?_ | refine xt ?_ | refine xf ?_ | refine xnu ?_)
  refine xnew fun p5 => ?_
  refine xrep 0 (setV 0) rfl rfl ?_
  repeat (refine xnot 10 ?_; first | refine xst ?_ | refine xar ?_ | refine xop ?_ | refine xlen ?_ | refine xld rfl ?_ | refine xsto rfl ?_ | refine xno ?_ | refine xt ?_ | refine xf ?_ | refine xnu ?_)
  refine xst ?_
  refine G.cut (σ := Unit) (fun _ => [(4, .pointer (some ⟨p4, 0, none⟩)), (5, .pointer (some ⟨p5, 0, none⟩))]) (fun _ => [pts p5 (setV (startF F body)), pts p4 (setV 0)]) (fun _ => True) ?_ ?_
  · repeat (first | refine xst ?_ | refine xar ?_ | refine xop ?_ | refine xlen ?_ | refine xld rfl ?_ | refine xsto rfl ?_ | refine xno ?_ | refine xt ?_ | refine xf ?_ | refine xnu ?_)
    refine G.loop (σ := Nat × Nat) (fun s => [(0, .pointer (some ⟨fb, 0, none⟩)), (4, .pointer (some ⟨p4, 0, none⟩)), (5, .pointer (some ⟨p5, 0, none⟩)), (8, .slice a body.length cap), (9, .int .i64 (body.length : Int)), (10, .int .i64 (s.1 : Int))])
      (fun s => [pts p5 (setV s.2), pts p4 (setV 0)]) (fun s => s.1 ≤ body.length ∧ startF F body = s.2 ||| startF F (body.drop s.1)) (fun s => body.length - s.1) (0, 0) ⟨Nat.zero_le _, by simp⟩ ⟨rfl, rfl, rfl, rfl, rfl, rfl, trivial⟩ (Ent.refl _) ?_
    rintro ⟨i, x⟩ ⟨hi, hv⟩
    simp only at hi hv
    show G C _ [(0, .pointer (some ⟨fb, 0, none⟩)), (4, .pointer (some ⟨p4, 0, none⟩)), (5, .pointer (some ⟨p5, 0, none⟩)), (8, .slice a body.length cap), (9, .int .i64 (body.length : Int)), (10, .int .i64 (i : Int))] [pts p5 (setV x), pts p4 (setV 0)]
    repeat (first | refine xst ?_ | refine xar ?_ | refine xop ?_ | refine xlen ?_ | refine xld rfl ?_ | refine xsto rfl ?_ | refine xno ?_ | refine xt ?_ | refine xf ?_ | refine xnu ?_)
    refine xd (q := (i : Int) < (body.length : Int)) (fun h => ?_) (fun h => ?_)
    · have h : i < body.length := by omega
      obtain ⟨bb, bo, rfl, _⟩ := hr.some (by omega)
      have hg := sgsV_get h
      have hd : body.drop i = body[i] :: body.drop (i + 1) := List.drop_eq_getElem_cons h
      have h16 := hb _ (List.getElem_mem h)
      rw [hd, startF_cons] at hv
      generalize body[i] = s at hg hd h16 hv
      obtain ⟨nm, lo, hi'⟩ := s
      simp only at h16 hv
      repeat (first | refine xst ?_ | refine xar ?_ | refine xop ?_ | refine xlen ?_ | refine xld rfl ?_ | refine xsto rfl ?_ | refine xno ?_ | refine xt ?_ | refine xf ?_ | refine xnu ?_)
      refine xix ?_ (hk := h)
      refine xldla rfl (i * 3) (Sg.v ⟨nm, lo, hi'⟩) rfl hg (by rw [sgsV_len]; show i * 3 + 3 ≤ _; omega) ?_
      repeat (first | refine xst ?_ | refine xar ?_ | refine xop ?_ | refine xlen ?_ | refine xld rfl ?_ | refine xsto rfl ?_ | refine xno ?_ | refine xt ?_ | refine xf ?_ | refine xnu ?_)
      refine xnew fun p => ?_
      repeat (first | refine xst ?_ | refine xar ?_ | refine xop ?_ | refine xlen ?_ | refine xld rfl ?_ | refine xsto rfl ?_ | refine xno ?_ | refine xt ?_ | refine xf ?_ | refine xnu ?_)
      refine xd (q := nm < 0) (fun hn => ?_) (fun hn => ?_)
      · rw [if_pos hn] at hv
        repeat (first | refine xst ?_ | refine xar ?_ | refine xop ?_ | refine xlen ?_ | refine xld rfl ?_ | refine xsto rfl ?_ | refine xno ?_ | refine xt ?_ | refine xf ?_ | refine xnu ?_)
        refine xdraw ?_
        refine xdld 0 rfl rfl ?_
        refine xdop 1 ?_
        refine xdld 2 rfl rfl ?_
        refine xdop 3 ?_
        refine xdld 4 rfl rfl ?_
        refine xdact 5 ?_
        refine xcall (span_spec lo hi') ?_
        rintro v H ⟨rfl, rfl⟩
        refine G.app ?_
        refine xst ?_
        refine xdact 6 ?_
        refine xcall (sor_spec x (W.span lo.toNat hi'.toNat)) ?_
        rintro v H ⟨rfl, rfl⟩
        refine G.app ?_
        rw [← hv]
        refine xst ?_
        refine xdact 7 ?_
        refine xsto rfl ?_
        refine xst ?_
        refine xdend ?_
        repeat (first | refine xst ?_ | refine xar ?_ | refine xop ?_ | refine xlen ?_ | refine xld rfl ?_ | refine xsto rfl ?_ | refine xno ?_ | refine xt ?_ | refine xf ?_ | refine xnu ?_)
        exact xretm [] rfl (.c .nil rfl rfl (partF_all rfl rfl)) ⟨rfl, rfl⟩
      · obtain ⟨k, rfl⟩ : ∃ k : Nat, nm = k := ⟨nm.toNat, by omega⟩
        have hk : k < 16 := by omega
        rw [if_neg hn, Int.toNat_natCast] at hv
        repeat (first | refine xst ?_ | refine xar ?_ | refine xop ?_ | refine xlen ?_ | refine xld rfl ?_ | refine xsto rfl ?_ | refine xno ?_ | refine xt ?_ | refine xf ?_ | refine xnu ?_)
        refine xdraw ?_
        refine xdld 0 rfl rfl ?_
        refine xdop 1 ?_
        refine xdop 2 ?_
        refine xdld 3 rfl rfl ?_
        refine xdop 4 ?_
        refine xdop 5 ?_
        refine xdix 6 ?_ (hk := by first | omega | exact Nat.le_of_ble_eq_true rfl)
        refine xdld 7 rfl rfl ?_ (hv := Fx.fi_part hF hk rfl rfl)
        refine xdact 8 ?_
        refine xcall (sor_spec x (F.fi k)) ?_
        rintro v H ⟨rfl, rfl⟩
        refine G.app ?_
        refine xst ?_
        refine xdact 9 ?_
        refine xsto rfl ?_
        refine xrep 1 (setV (x ||| F.fi k)) rfl rfl ?_
        refine xst ?_
        refine xdend ?_
        repeat (first | refine xst ?_ | refine xar ?_ | refine xop ?_ | refine xlen ?_ | refine xld rfl ?_ | refine xsto rfl ?_ | refine xno ?_ | refine xt ?_ | refine xf ?_ | refine xnu ?_)
        refine xdraw ?_
        refine xdop 0 ?_
        refine xdop 1 ?_
        refine xdld 2 rfl rfl ?_
        refine xdop 3 ?_
        refine xdop 4 ?_
        refine xdix 5 ?_ (hk := by first | omega | exact Nat.le_of_ble_eq_true rfl)
        refine xdld 6 rfl rfl ?_ (hv := Fx.v_nl hF hk)
        refine xdop 7 ?_
        refine xdend ?_
        cases hb : F.nl k with
        | false =>
          rw [hb, if_neg (by simp), Nat.or_zero] at hv
          repeat (first | refine xst ?_ | refine xar ?_ | refine xop ?_ | refine xlen ?_ | refine xld rfl ?_ | refine xsto rfl ?_ | refine xno ?_ | refine xt ?_ | refine xf ?_ | refine xnu ?_)
          refine G.fin () trivial ⟨rfl, rfl, trivial⟩ ?_
          rw [hv]; exact ent_pick
        | true =>
          rw [hb, if_pos rfl, ← Nat.or_assoc] at hv
          repeat (first | refine xst ?_ | refine xar ?_ | refine xop ?_ | refine xlen ?_ | refine xld rfl ?_ | refine xsto rfl ?_ | refine xno ?_ | refine xt ?_ | refine xf ?_ | refine xnu ?_)
          exact G.fin (i + 1, x ||| F.fi k) ⟨⟨by show i + 1 ≤ _; omega, hv⟩, by show body.length - (i + 1) < body.length - i; omega⟩ ⟨rfl, rfl, rfl, rfl, rfl, rfl, trivial⟩ (by show Ent _ [pts p5 (setV (x ||| F.fi k)), pts p4 (setV 0)]; exact ent_pick)
    · rw [List.drop_eq_nil_of_le (by omega), show startF F [] = 0 from rfl, Nat.or_zero] at hv
      repeat (first | refine xst ?_ | refine xar ?_ | refine xop ?_ | refine xlen ?_ | refine xld rfl ?_ | refine xsto rfl ?_ | refine xno ?_ | refine xt ?_ | refine xf ?_ | refine xnu ?_)
      refine G.fin () trivial ⟨rfl, rfl, trivial⟩ ?_
      rw [hv]; exact ent_pick
  rintro _ _
  show G C _ [(4, .pointer (some ⟨p4, 0, none⟩)), (5, .pointer (some ⟨p5, 0, none⟩))] [pts p5 (setV (startF F body)), pts p4 (setV 0)]
  repeat (first | refine xst ?_ | refine xar ?_ | refine xop ?_ | refine xlen ?_ | refine xld rfl ?_ | refine xsto rfl ?_ | refine xno ?_ | refine xt ?_ | refine xf ?_ | refine xnu ?_)
  exact xretm [] rfl (.c .nil rfl rfl (partF_all rfl rfl)) ⟨rfl, rfl⟩
end Go.Proofs.YthlaacnjgdmakaaDoor

/- gram: the steps of study. -/
namespace Go.Proofs.YthlaacnjgdmakaaDoor
open Go.W

/-- A form that may stand in a well formed grammar. -/
structure Fm.wf (f : Fm) : Prop where
  name0 : 0 ≤ f.name
  name : f.name < 16
  body : ∀ s ∈ f.body, s.name < 16
  len : f.body.length ≤ 1000000
def stepA (F : Fx) (f : Fm) : Fx :=
  let n := f.name.toNat
  let F1 := F.setTx n (F.tx n || derF F f.body)
  F1.setNl n (F1.nl n || vanF F1 f.body)
def stepB (F : Fx) (f : Fm) : Fx := F.setFi f.name.toNat (F.fi f.name.toNat ||| startF F f.body)
def stepC1 (n : Nat) (F : Fx) : List Sg → Fx
  | [] => F
  | s :: r => if s.name < 0 then stepC1 n F r else
    let b := s.name.toNat
    let F1 := F.setFo b (F.fo b ||| startF F r)
    let F2 := if vanF F1 r then F1.setFo b (F1.fo b ||| F1.fo n) else F1
    stepC1 n F2 r
def stepC (F : Fx) (f : Fm) : Fx := stepC1 f.name.toNat F f.body
theorem stepA_ok {F : Fx} (h : F.ok) (f : Fm) : (stepA F f).ok := (h.setTx _ _).setNl _ _
theorem stepB_ok {F : Fx} (h : F.ok) (f : Fm) : (stepB F f).ok := h.setFi _ (Nat.or_lt_two_pow (h.fi_lt _) (startF_lt h _))
theorem stepC1_ok (n : Nat) : ∀ (l : List Sg) {F : Fx}, F.ok → (stepC1 n F l).ok
  | [], _, h => h
  | s :: r, F, h => by
    unfold stepC1
    split
    · exact stepC1_ok n r h
    · have h1 : (F.setFo s.name.toNat (F.fo s.name.toNat ||| startF F r)).ok := h.setFo _ (Nat.or_lt_two_pow (h.fo_lt _) (startF_lt h _))
      dsimp only
      split
      · exact stepC1_ok n r (h1.setFo _ (Nat.or_lt_two_pow (h1.fo_lt _) (h1.fo_lt _)))
      · exact stepC1_ok n r h1
theorem stepC_ok {F : Fx} (h : F.ok) (f : Fm) : (stepC F f).ok := stepC1_ok _ _ h

theorem studyA_spec (F : Fx) (hF : F.ok) (fb : Nat) (f : Fm) (hf : f.wf) : Fun Tryd.prog 85 [.agg f.v.toArray, .pointer (some ⟨fb, 0, none⟩)] [f.rd] [pts fb F.v] fun _ H => H = [pts fb (stepA F f).v] := by
  obtain ⟨nm, fa, fcap, body⟩ := f
  obtain ⟨h0, h16, hb, hl⟩ := hf
  simp only at h0 h16 hb hl
  obtain ⟨n, rfl⟩ : ∃ n : Nat, nm = n := ⟨nm.toNat, by omega⟩
  have hn : n < 16 := by omega
  refine xenter (p := pg) Tryd.call85 Tryd.func85 fun C => ?_
  haveI hr : RS C 3 fa body.length fcap (sgsV body) := RP.slR (RP.of C (X := slR 3 fa body.length fcap (sgsV body)) (by simp [Fm.rd]))
  have hvl := Fx.v_len hF
  repeat (first | refine xst ?_ | refine xar ?_ | refine xop ?_ | refine xlen ?_ | refine xld rfl ?_ | refine xsto rfl ?_ | refine xno ?_ | refine xt ?_ | refine xf ?_ | refine xnu ?_)
  refine xnew fun p => ?_
  refine xrep 0 (Fm.v ⟨n, fa, fcap, body⟩) rfl rfl ?_
  refine xst ?_
  refine xst ?_
  obtain ⟨F1, hF1⟩ : ∃ F1, F1 = F.setTx n (F.tx n || derF F body) := ⟨_, rfl⟩
  have h1ok : F1.ok := by rw [hF1]; exact hF.setTx _ _
  have h1l := Fx.v_len h1ok
  refine G.cut (σ := Unit) (fun _ => [(1, .pointer (some ⟨fb, 0, none⟩)), (2, .pointer (some ⟨p, 0, none⟩))]) (fun _ => [pts p (Fm.v ⟨n, fa, fcap, body⟩), pts fb F1.v]) (fun _ => True) ?_ ?_
  · cases ht : F.tx n with
    | true =>
      rw [ht, Bool.true_or] at hF1
      refine xdraw ?_
      refine xdop 0 ?_
      refine xdld 1 rfl rfl ?_
      refine xdop 2 ?_
      refine xdld 3 rfl rfl ?_
      refine xdop 4 ?_
      refine xdix 5 ?_ (hk := hn)
      refine xEp 8 n rfl (by show 0 + 0 + n = n; omega) ?_
      refine xdld 6 rfl rfl ?_ (hv := (Fx.v_tx hF hn).trans (by rw [ht]))
      refine xdop 7 ?_
      (first | refine xdno 8 ?_ | refine xdop 8 ?_ | refine xdnu 8 ?_)
      (first | refine xdno 9 ?_ | refine xdld 9 rfl rfl ?_ | refine xdnu 9 ?_)
      refine xdop 12 ?_
      refine xdact 10 ?_
      refine xno ?_
      refine xst ?_
      refine xdop 11 ?_
      refine xdix 13 ?_ (hk := hn)
      refine xEp 16 n rfl (by show 0 + 0 + n = n; omega) ?_
      refine xdact 14 ?_
      refine xsto rfl ?_ (hm := (putF_one (by rw [hvl]; omega)).trans (congrArg some (Fx.v_setTx hF hn true)))
      refine xst ?_
      refine xdend ?_
      rw [← hF1]
      exact G.fin () trivial ⟨rfl, rfl, trivial⟩ ent_pick
    | false =>
      rw [ht, Bool.false_or] at hF1
      refine xdraw ?_
      refine xdop 0 ?_
      refine xdld 1 rfl rfl ?_
      refine xdop 2 ?_
      refine xdld 3 rfl rfl ?_
      refine xdop 4 ?_
      refine xdix 5 ?_ (hk := hn)
      refine xEp 8 n rfl (by show 0 + 0 + n = n; omega) ?_
      refine xdld 6 rfl rfl ?_ (hv := (Fx.v_tx hF hn).trans (by rw [ht]))
      refine xdop 7 ?_
      (first | refine xdno 8 ?_ | refine xdop 8 ?_ | refine xdnu 8 ?_)
      (first | refine xdno 9 ?_ | refine xdld 9 rfl rfl ?_ | refine xdnu 9 ?_)
      refine xdop 12 ?_
      refine xdact 10 ?_
      refine xcall (derives_spec F hF fb fa fcap body hb hl) ?_
      rintro v H ⟨rfl, rfl⟩
      refine G.app ?_
      refine xst ?_
      refine xdop 11 ?_
      refine xdix 13 ?_ (hk := hn)
      refine xEp 16 n rfl (by show 0 + 0 + n = n; omega) ?_
      refine xdact 14 ?_
      refine xsto rfl ?_ (hm := (putF_one (by rw [hvl]; omega)).trans (congrArg some (Fx.v_setTx hF hn (derF F body))))
      refine xst ?_
      refine xdend ?_
      rw [← hF1]
      exact G.fin () trivial ⟨rfl, rfl, trivial⟩ ent_pick
  rintro _ _
  show G C _ [(1, .pointer (some ⟨fb, 0, none⟩)), (2, .pointer (some ⟨p, 0, none⟩))] [pts p (Fm.v ⟨n, fa, fcap, body⟩), pts fb F1.v]
  have hst : stepA F ⟨n, fa, fcap, body⟩ = F1.setNl n (F1.nl n || vanF F1 body) := by rw [hF1]; rfl
  refine G.cut (σ := Unit) (fun _ => []) (fun _ => [pts fb (F1.setNl n (F1.nl n || vanF F1 body)).v]) (fun _ => True) ?_ ?_
  · cases ht : F1.nl n with
    | true =>
      refine xdraw ?_
      refine xdop 0 ?_
      refine xdld 1 rfl rfl ?_
      refine xdop 2 ?_
      refine xdld 3 rfl rfl ?_
      refine xdop 4 ?_
      refine xdix 5 ?_ (hk := hn)
      refine xdld 6 rfl rfl ?_ (hv := (Fx.v_nl h1ok hn).trans (by rw [ht]))
      refine xdop 7 ?_
      (first | refine xdno 8 ?_ | refine xdop 8 ?_ | refine xdnu 8 ?_)
      (first | refine xdno 9 ?_ | refine xdld 9 rfl rfl ?_ | refine xdnu 9 ?_)
      refine xdop 12 ?_
      refine xdact 10 ?_
      refine xno ?_
      refine xst ?_
      refine xdop 11 ?_
      refine xdix 13 ?_ (hk := hn)
      refine xdact 14 ?_
      refine xsto rfl ?_ (hm := (putF_one (by rw [h1l]; show 0 + 16 + n < 160; omega)).trans (congrArg some (Fx.v_setNl h1ok hn true)))
      refine xst ?_
      refine xdend ?_
      exact G.fin () trivial trivial (by rw [Bool.true_or]; exact ent_pick)
    | false =>
      refine xdraw ?_
      refine xdop 0 ?_
      refine xdld 1 rfl rfl ?_
      refine xdop 2 ?_
      refine xdld 3 rfl rfl ?_
      refine xdop 4 ?_
      refine xdix 5 ?_ (hk := hn)
      refine xdld 6 rfl rfl ?_ (hv := (Fx.v_nl h1ok hn).trans (by rw [ht]))
      refine xdop 7 ?_
      (first | refine xdno 8 ?_ | refine xdop 8 ?_ | refine xdnu 8 ?_)
      (first | refine xdno 9 ?_ | refine xdld 9 rfl rfl ?_ | refine xdnu 9 ?_)
      refine xdop 12 ?_
      refine xdact 10 ?_
      refine xcall (vanishes_spec F1 h1ok fb fa fcap body hb hl) ?_
      rintro v H ⟨rfl, rfl⟩
      refine G.app ?_
      refine xst ?_
      refine xdop 11 ?_
      refine xdix 13 ?_ (hk := hn)
      refine xdact 14 ?_
      refine xsto rfl ?_ (hm := (putF_one (by rw [h1l]; show 0 + 16 + n < 160; omega)).trans (congrArg some (Fx.v_setNl h1ok hn (vanF F1 body))))
      refine xst ?_
      refine xdend ?_
      exact G.fin () trivial trivial (by rw [Bool.false_or]; exact ent_pick)
  rintro _ _
  exact xdonep [0] (by rw [hst])

theorem studyB_spec (F : Fx) (hF : F.ok) (fb : Nat) (f : Fm) (hf : f.wf) : Fun Tryd.prog 87 [.agg f.v.toArray, .pointer (some ⟨fb, 0, none⟩)] [f.rd] [pts fb F.v] fun _ H => H = [pts fb (stepB F f).v] := by
  obtain ⟨nm, fa, fcap, body⟩ := f
  obtain ⟨h0, h16, hb, hl⟩ := hf
  simp only at h0 h16 hb hl
  obtain ⟨n, rfl⟩ : ∃ n : Nat, nm = n := ⟨nm.toNat, by omega⟩
  have hn : n < 16 := by omega
  refine xenter (p := pg) Tryd.call87 Tryd.func87 fun C => ?_
  haveI hr : RS C 3 fa body.length fcap (sgsV body) := RP.slR (RP.of C (X := slR 3 fa body.length fcap (sgsV body)) (by simp [Fm.rd]))
  have hvl := Fx.v_len hF
  repeat (first | refine xst ?_ | refine xar ?_ | refine xop ?_ | refine xlen ?_ | refine xld rfl ?_ | refine xsto rfl ?_ | refine xno ?_ | refine xt ?_ | refine xf ?_ | refine xnu ?_)
  refine xnew fun p => ?_
  refine xrep 0 (Fm.v ⟨n, fa, fcap, body⟩) rfl rfl ?_
  refine xst ?_
  refine xdraw ?_
  refine xdop 0 ?_
  refine xdld 1 rfl rfl ?_
  refine xdop 2 ?_
  refine xdld 3 rfl rfl ?_
  refine xdop 4 ?_
  refine xdix 5 ?_ (hk := hn)
  refine xdld 6 rfl rfl ?_ (hv := Fx.fi_part hF hn rfl rfl)
  refine xdop 7 ?_
  refine xdld 8 rfl rfl ?_
  refine xdop 11 ?_
  refine xdact 9 ?_
  refine xcall (start_spec F hF fb fa fcap body hb hl) ?_
  rintro v H ⟨rfl, rfl⟩
  refine G.app ?_
  refine xst ?_
  refine xdact 10 ?_
  refine xcall (sor_spec (F.fi n) (startF F body)) ?_
  rintro v H ⟨rfl, rfl⟩
  refine G.app ?_
  refine xst ?_
  refine xdix 12 ?_ (hk := hn)
  refine xdact 13 ?_
  refine xsta (cs := setV (F.fi n ||| startF F body)) rfl rfl (setV_one _) (stepB F ⟨n, fa, fcap, body⟩).v (by show F.v.take (0 + 32 + n * 4) ++ _ ++ F.v.drop (0 + 32 + n * 4 + 4) = _; rw [Nat.zero_add]; exact Fx.v_setFi hF hn _) (by rw [hvl]; show 0 + 32 + n * 4 + 4 ≤ 160; omega) ?_
  refine xst ?_
  refine xdend ?_
  exact xdonep [1] rfl

theorem stepC1_cons (n : Nat) (F : Fx) (s : Sg) (r : List Sg) : stepC1 n F (s :: r) = if s.name < 0 then stepC1 n F r else
    stepC1 n (if vanF (F.setFo s.name.toNat (F.fo s.name.toNat ||| startF F r)) r then (F.setFo s.name.toNat (F.fo s.name.toNat ||| startF F r)).setFo s.name.toNat ((F.setFo s.name.toNat (F.fo s.name.toNat ||| startF F r)).fo s.name.toNat ||| (F.setFo s.name.toNat (F.fo s.name.toNat ||| startF F r)).fo n) else F.setFo s.name.toNat (F.fo s.name.toNat ||| startF F r)) r := rfl
theorem sgsV_drop (l : List Sg) (k : Nat) : (sgsV l).drop (k * 3) = sgsV (l.drop k) := by
  induction k generalizing l with
  | zero => simp
  | succ k ih =>
    cases l with
    | nil => simp [sgsV]
    | cons s l => rw [List.drop_succ_cons, ← ih, Nat.succ_mul, Nat.add_comm (k * 3) 3, show sgsV (s :: l) = s.v ++ sgsV l from rfl, drop_len (Sg.v_len s)]
theorem studyC_spec (F0 : Fx) (hF0 : F0.ok) (fb : Nat) (f : Fm) (hf : f.wf) : Fun Tryd.prog 89 [.agg f.v.toArray, .pointer (some ⟨fb, 0, none⟩)] [f.rd] [pts fb F0.v] fun _ H => H = [pts fb (stepC F0 f).v] := by
  obtain ⟨nm, fa, fcap, body⟩ := f
  obtain ⟨h0, h16, hb, hl⟩ := hf
  simp only at h0 h16 hb hl
  obtain ⟨n, rfl⟩ : ∃ n : Nat, nm = n := ⟨nm.toNat, by omega⟩
  have hn : n < 16 := by omega
  refine xenter (p := pg) Tryd.call89 Tryd.func89 fun C => ?_
  haveI hr : RS C 3 fa body.length fcap (sgsV body) := RP.slR (RP.of C (X := slR 3 fa body.length fcap (sgsV body)) (by simp [Fm.rd]))
  repeat (first | refine xst ?_ | refine xar ?_ | refine xop ?_ | refine xlen ?_ | refine xld rfl ?_ | refine xsto rfl ?_ | refine xno ?_ | refine xt ?_ | refine xf ?_ | refine xnu ?_)
  refine xnew fun p => ?_
  refine xrep 0 (Fm.v ⟨n, fa, fcap, body⟩) rfl rfl ?_
  repeat (first | refine xst ?_ | refine xar ?_ | refine xop ?_ | refine xlen ?_ | refine xld rfl ?_ | refine xsto rfl ?_ | refine xno ?_ | refine xt ?_ | refine xf ?_ | refine xnu ?_)
  refine G.loop (σ := Nat × Fx) (fun s => [(1, .pointer (some ⟨fb, 0, none⟩)), (2, .pointer (some ⟨p, 0, none⟩)), (7, .slice fa body.length fcap), (8, .int .i64 (body.length : Int)), (9, .int .i64 (s.1 : Int))])
    (fun s => [pts p (Fm.v ⟨n, fa, fcap, body⟩), pts fb s.2.v]) (fun s => s.1 ≤ body.length ∧ s.2.ok ∧ stepC1 n F0 body = stepC1 n s.2 (body.drop s.1)) (fun s => body.length - s.1) (0, F0) ⟨Nat.zero_le _, hF0, rfl⟩ ⟨rfl, rfl, rfl, rfl, rfl, trivial⟩ (by exact ent_pick) ?_
  rintro ⟨i, F⟩ ⟨hi, hF, hv⟩
  simp only at hi hF hv
  have hvl := Fx.v_len hF
  show G C _ [(1, .pointer (some ⟨fb, 0, none⟩)), (2, .pointer (some ⟨p, 0, none⟩)), (7, .slice fa body.length fcap), (8, .int .i64 (body.length : Int)), (9, .int .i64 (i : Int))] [pts p (Fm.v ⟨n, fa, fcap, body⟩), pts fb F.v]
  repeat (first | refine xst ?_ | refine xar ?_ | refine xop ?_ | refine xlen ?_ | refine xld rfl ?_ | refine xsto rfl ?_ | refine xno ?_ | refine xt ?_ | refine xf ?_ | refine xnu ?_)
  refine xd (q := (i : Int) < (body.length : Int)) (fun h => ?_) (fun h => ?_)
  · have h : i < body.length := by omega
    obtain ⟨bb, bo, rfl, _⟩ := hr.some (by omega)
    have hg := sgsV_get h
    have hd : body.drop i = body[i] :: body.drop (i + 1) := List.drop_eq_getElem_cons h
    have hs16 := hb _ (List.getElem_mem h)
    rw [hd, stepC1_cons] at hv
    generalize body[i] = s at hg hd hs16 hv
    obtain ⟨nm, lo, hi'⟩ := s
    simp only at hs16 hv
    repeat (first | refine xst ?_ | refine xar ?_ | refine xop ?_ | refine xlen ?_ | refine xld rfl ?_ | refine xsto rfl ?_ | refine xno ?_ | refine xt ?_ | refine xf ?_ | refine xnu ?_)
    refine xix ?_ (hk := h)
    refine xldla rfl (i * 3) (Sg.v ⟨nm, lo, hi'⟩) rfl hg (by rw [sgsV_len]; show i * 3 + 3 ≤ _; omega) ?_
    repeat (first | refine xst ?_ | refine xar ?_ | refine xop ?_ | refine xlen ?_ | refine xld rfl ?_ | refine xsto rfl ?_ | refine xno ?_ | refine xt ?_ | refine xf ?_ | refine xnu ?_)
    refine xnew fun p4 => ?_
    repeat (first | refine xst ?_ | refine xar ?_ | refine xop ?_ | refine xlen ?_ | refine xld rfl ?_ | refine xsto rfl ?_ | refine xno ?_ | refine xt ?_ | refine xf ?_ | refine xnu ?_)
    refine xd (q := nm < 0) (fun hneg => ?_) (fun hneg => ?_)
    · rw [if_pos hneg] at hv
      repeat (first | refine xst ?_ | refine xar ?_ | refine xop ?_ | refine xlen ?_ | refine xld rfl ?_ | refine xsto rfl ?_ | refine xno ?_ | refine xt ?_ | refine xf ?_ | refine xnu ?_)
      exact G.fin (i + 1, F) ⟨⟨by show i + 1 ≤ _; omega, hF, hv⟩, by show body.length - (i + 1) < body.length - i; omega⟩ ⟨rfl, rfl, rfl, rfl, rfl, trivial⟩ ent_pick
    · obtain ⟨m, rfl⟩ : ∃ m : Nat, nm = m := ⟨nm.toNat, by omega⟩
      have hm : m < 16 := by omega
      rw [if_neg hneg, Int.toNat_natCast] at hv
      obtain ⟨rest, hrest⟩ : ∃ rest, rest = body.drop (i + 1) := ⟨_, rfl⟩
      have hrl : rest.length = body.length - (i + 1) := by rw [hrest, List.length_drop]
      have hrb : ∀ s ∈ rest, s.name < 16 := fun s hs => hb s (List.mem_of_mem_drop (by rw [← hrest]; exact hs))
      have hra : RS C 3 (subA (some ⟨bb, bo, none⟩) (i + 1) 3 fcap) rest.length (fcap - (i + 1)) (sgsV rest) := by
        have := RS.sub hr (k := i + 1) (m := body.length) (by omega) (Nat.le_refl _)
        rw [sgsV_drop, ← hrest, ← hrl, List.take_of_length_le (by rw [sgsV_len]; exact Nat.le_refl _)] at this
        exact this
      rw [← hrest] at hv
      obtain ⟨F1, hF1⟩ : ∃ F1, F1 = F.setFo m (F.fo m ||| startF F rest) := ⟨_, rfl⟩
      have h1ok : F1.ok := by rw [hF1]; exact hF.setFo _ (Nat.or_lt_two_pow (hF.fo_lt _) (startF_lt hF _))
      have h1l := Fx.v_len h1ok
      rw [← hF1] at hv
      repeat (refine xnot 20 ?_; first | refine xst ?_ | refine xar ?_ | refine xop ?_ | refine xlen ?_ | refine xld rfl ?_ | refine xsto rfl ?_ | refine xno ?_ | refine xt ?_ | refine xf ?_ | refine xnu ?_)
      refine xslice (i + 1) body.length rfl rfl rfl (by omega) (hr.len).2 ?_
      refine xE 21 (.slice (subA (some ⟨bb, bo, none⟩) (i + 1) 3 fcap) rest.length (fcap - (i + 1))) rfl (by rw [hrl]; rfl) ?_
      refine xop ?_
      refine xst ?_
      refine xst ?_
      refine xdraw ?_
      refine xdop 0 ?_
      refine xdld 1 rfl rfl ?_
      refine xdop 2 ?_
      refine xdld 3 rfl rfl ?_
      refine xdop 4 ?_
      refine xdix 5 ?_ (hk := hm)
      refine xdld 6 rfl rfl ?_ (hv := Fx.fo_part hF hm rfl rfl)
      refine xdop 7 ?_
      refine xdop 10 ?_
      refine xdact 8 ?_
      refine xcall (start_spec F hF fb _ _ rest hrb (by omega)) ?_
      rintro v H ⟨rfl, rfl⟩
      refine G.app ?_
      refine xst ?_
      refine xdact 9 ?_
      refine xcall (sor_spec (F.fo m) (startF F rest)) ?_
      rintro v H ⟨rfl, rfl⟩
      refine G.app ?_
      refine xst ?_
      refine xdix 11 ?_ (hk := hm)
      refine xdact 12 ?_
      refine xsta (cs := setV (F.fo m ||| startF F rest)) rfl rfl (setV_one _) F1.v (by show F.v.take (0 + 96 + m * 4) ++ _ ++ F.v.drop (0 + 96 + m * 4 + 4) = _; rw [Nat.zero_add, hF1]; exact Fx.v_setFo hF hm _) (by rw [hvl]; show 0 + 96 + m * 4 + 4 ≤ 160; omega) ?_
      refine xst ?_
      refine xdend ?_
      refine xst ?_
      refine xst ?_
      refine xop ?_
      refine xcall (vanishes_spec F1 h1ok fb _ _ rest hrb (by omega)) ?_
      rintro v H ⟨rfl, rfl⟩
      refine G.app ?_
      refine xst ?_
      cases hvb : vanF F1 rest with
      | true =>
        rw [hvb, if_pos rfl] at hv
        repeat (first | refine xst ?_ | refine xar ?_ | refine xop ?_ | refine xlen ?_ | refine xld rfl ?_ | refine xsto rfl ?_ | refine xno ?_ | refine xt ?_ | refine xf ?_ | refine xnu ?_)
        refine xdraw ?_
        refine xdop 0 ?_
        refine xdld 1 rfl rfl ?_
        refine xdop 2 ?_
        refine xdld 3 rfl rfl ?_
        refine xdop 4 ?_
        refine xdix 5 ?_ (hk := hm)
        refine xdld 6 rfl rfl ?_ (hv := Fx.fo_part h1ok hm rfl rfl)
        refine xdop 7 ?_
        refine xdld 8 rfl rfl ?_
        refine xdop 9 ?_
        refine xdix 10 ?_ (hk := hn)
        refine xdld 11 rfl rfl ?_ (hv := Fx.fo_part h1ok hn rfl rfl)
        refine xdop 13 ?_
        refine xdact 12 ?_
        refine xcall (sor_spec (F1.fo m) (F1.fo n)) ?_
        rintro v H ⟨rfl, rfl⟩
        refine G.app ?_
        refine xst ?_
        refine xdix 14 ?_ (hk := hm)
        refine xdact 15 ?_
        refine xsta (cs := setV (F1.fo m ||| F1.fo n)) rfl rfl (setV_one _) (F1.setFo m (F1.fo m ||| F1.fo n)).v (by show F1.v.take (0 + 96 + m * 4) ++ _ ++ F1.v.drop (0 + 96 + m * 4 + 4) = _; rw [Nat.zero_add]; exact Fx.v_setFo h1ok hm _) (by rw [h1l]; show 0 + 96 + m * 4 + 4 ≤ 160; omega) ?_
        refine xst ?_
        refine xdend ?_
        repeat (first | refine xst ?_ | refine xar ?_ | refine xop ?_ | refine xlen ?_ | refine xld rfl ?_ | refine xsto rfl ?_ | refine xno ?_ | refine xt ?_ | refine xf ?_ | refine xnu ?_)
        exact G.fin (i + 1, F1.setFo m (F1.fo m ||| F1.fo n)) ⟨⟨by show i + 1 ≤ _; omega, h1ok.setFo _ (Nat.or_lt_two_pow (h1ok.fo_lt _) (h1ok.fo_lt _)), by rw [hv, hrest]⟩, by show body.length - (i + 1) < body.length - i; omega⟩ ⟨rfl, rfl, rfl, rfl, rfl, trivial⟩ ent_pick
      | false =>
        rw [hvb, if_neg (by simp)] at hv
        repeat (first | refine xst ?_ | refine xar ?_ | refine xop ?_ | refine xlen ?_ | refine xld rfl ?_ | refine xsto rfl ?_ | refine xno ?_ | refine xt ?_ | refine xf ?_ | refine xnu ?_)
        exact G.fin (i + 1, F1) ⟨⟨by show i + 1 ≤ _; omega, h1ok, by rw [hv, hrest]⟩, by show body.length - (i + 1) < body.length - i; omega⟩ ⟨rfl, rfl, rfl, rfl, rfl, trivial⟩ ent_pick
  · rw [List.drop_eq_nil_of_le (by omega)] at hv
    have hst : stepC F0 ⟨n, fa, fcap, body⟩ = F := hv
    repeat (first | refine xst ?_ | refine xar ?_ | refine xop ?_ | refine xlen ?_ | refine xld rfl ?_ | refine xsto rfl ?_ | refine xno ?_ | refine xt ?_ | refine xf ?_ | refine xnu ?_)
    refine xdonep [1] ?_
    rw [hst]
end Go.Proofs.YthlaacnjgdmakaaDoor
