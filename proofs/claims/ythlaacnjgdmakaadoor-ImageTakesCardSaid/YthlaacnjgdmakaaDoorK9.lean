/- Part of the proof: LTd, LTe, LTf, LTg, LTh, LLt, LLc -/
import Derived.Test.YthlaacnjgdmakaaDoorK7
import Derived.Test.YthlaacnjgdmakaaDoorK8
import Derived.Test.YthlaacnjgdmakaaDoorK3
/- The document's answer, layer 4: Sum. -/
namespace Go.Proofs.YthlaacnjgdmakaaDoor
open Go.W

theorem outB (w : UInt32) : ∀ (j : Nat) (h : j < 4), wB w (24 - 8 * j) = (outW w)[j]'(by simpa [outW] using h)
  | 0, _ => rfl
  | 1, _ => rfl
  | 2, _ => rfl
  | 3, _ => rfl
theorem rsum_spec (a : Option Addr) (n cap : Nat) (bs : List UInt8) (hn : n = bs.length) (hl : n ≤ 900000000) : Fun Tryd.prog 43 [.slice a n cap] [slR 1 a n cap (bsV bs)] []
    fun v H => v = .agg (bsV (shaF bs)).toArray ∧ H = [] := by
  subst hn
  refine xenter (p := pg) Tryd.call43 Tryd.func43 fun C => ?_
  haveI hr := RP.slR (RP.of C (X := slR 1 a bs.length cap (bsV bs)) (by simp))
  obtain ⟨ys, hys⟩ : ∃ ys, shaF bs = ys := ⟨_, rfl⟩
  have hyl : ys.length = 32 := by rw [← hys, shaF_len]
  repeat (first | refine xst ?_ | refine xar ?_ | refine xop ?_ | refine xlen ?_ | refine xld rfl ?_ | refine xsto rfl ?_ | refine xno ?_ | refine xt ?_ | refine xf ?_)
  refine xnew fun b2 => ?_
  refine xrep 0 (zeros 32 [.int .u8 0]) rfl rfl ?_
  repeat (first | refine xst ?_ | refine xar ?_ | refine xop ?_ | refine xlen ?_ | refine xld rfl ?_ | refine xsto rfl ?_ | refine xno ?_ | refine xt ?_ | refine xf ?_)
  refine xE 8 (.agg (wsV iniS.l).toArray) rfl rfl ?_
  refine xnew fun b3 => ?_
  refine xsta (cs := wsV iniS.l) rfl rfl (wsV_one _) (wsV iniS.l) (put_all (by rfl)) (Nat.le_of_ble_eq_true rfl) ?_
  repeat (first | refine xst ?_ | refine xar ?_ | refine xop ?_ | refine xlen ?_ | refine xld rfl ?_ | refine xsto rfl ?_ | refine xno ?_ | refine xt ?_ | refine xf ?_)
  refine xcall (padded_spec a bs.length cap bs rfl hl) ?_
  rintro v H ⟨a4, c4, rfl, rfl⟩
  refine G.app ?_
  obtain ⟨xs, hxs⟩ : ∃ xs, padF bs = xs := ⟨_, rfl⟩
  obtain ⟨Q, hQ⟩ : ∃ Q, xs.length / 64 = Q := ⟨_, rfl⟩
  have hx64 : xs.length = 64 * Q := by have := padF_mod bs; rw [hxs] at this; omega
  have hxl : xs.length ≤ 1000000000 := by
    rw [← hxs, padF_len]
    have : padZ bs.length < 64 := Nat.mod_lt _ (by omega)
    omega
  have hfin : ys = outS (blks xs Q).l := by rw [← hys, shaF_blks, hxs, hQ]
  refine xreH 0 (sl 1 a4 xs.length c4 (bsV xs)) rfl (by rw [hxs]) ?_
  refine xE 10 (.slice a4 xs.length c4) rfl (by rw [hxs]) ?_
  refine xslf 0 rfl fun _ hc4 _ => ?_
  repeat (first | refine xst ?_ | refine xar ?_ | refine xop ?_ | refine xlen ?_ | refine xld rfl ?_ | refine xsto rfl ?_ | refine xno ?_ | refine xt ?_ | refine xf ?_)
  refine G.loop (σ := Nat) (fun q => [(2, .pointer (some ⟨b2, 0, none⟩)), (3, .pointer (some ⟨b3, 0, none⟩)), (4, .slice a4 xs.length c4), (5, .int .i64 ((64 * q : Nat) : Int))])
    (fun q => [sl 1 a4 xs.length c4 (bsV xs), pts b3 (wsV (blks xs q).l), pts b2 (zeros 32 [.int .u8 0])]) (fun q => q ≤ Q) (fun q => Q - q) 0 (Nat.zero_le _) ⟨rfl, rfl, rfl, rfl, trivial⟩ (Ent.refl _) ?_
  intro q hq
  have hq : q ≤ Q := hq
  obtain ⟨u, hu⟩ : ∃ u, blks xs q = u := ⟨_, rfl⟩
  show G C _ [(2, .pointer (some ⟨b2, 0, none⟩)), (3, .pointer (some ⟨b3, 0, none⟩)), (4, .slice a4 xs.length c4), (5, .int .i64 ((64 * q : Nat) : Int))] [sl 1 a4 xs.length c4 (bsV xs), pts b3 (wsV (blks xs q).l), pts b2 (zeros 32 [.int .u8 0])]
  refine xrep 1 (wsV u.l) rfl (by rw [hu]) ?_
  repeat (first | refine xst ?_ | refine xar ?_ | refine xop ?_ | refine xlen ?_ | refine xld rfl ?_ | refine xsto rfl ?_ | refine xno ?_ | refine xt ?_ | refine xf ?_)
  refine xd (q := ((64 * q : Nat) : Int) < (xs.length : Int)) (fun h1 => ?_) (fun h1 => ?_)
  · have h1 : 64 * q + 64 ≤ xs.length := by omega
    have hdl : ((xs.drop (64 * q)).take 64).length = 64 := by rw [List.length_take, List.length_drop]; omega
    haveI hpc : ∀ H [RdOk C H (slR 1 a4 xs.length c4 (bsV xs))], RdOk C H (slR 1 (subA a4 (64 * q) 1 c4) 64 (c4 - 64 * q) (bsV ((xs.drop (64 * q)).take 64))) := fun H h => RdOk.piece h (64 * q) 64 (by omega)
    repeat (first | refine xst ?_ | refine xar ?_ | refine xop ?_ | refine xlen ?_ | refine xld rfl ?_ | refine xsto rfl ?_ | refine xno ?_ | refine xt ?_ | refine xf ?_)
    refine xdraw ?_
    refine xdld 0 rfl rfl ?_ (hv := partF_all rfl rfl)
    refine xdop 1 ?_
    refine xdop 2 ?_
    refine xdop 3 ?_
    (first | refine xdar 4 ?_ | refine xdop 4 ?_)
    refine xdslice 5 (64 * q) (64 * q + 64) rfl rfl rfl (Int.natCast_add (64 * q) 64).symm (by omega) (by omega) ?_
    refine xE 22 (.slice (subA a4 (64 * q) 1 c4) 64 (c4 - 64 * q)) rfl (by rw [show 64 * q + 64 - 64 * q = 64 by omega]; rfl) ?_
    refine xdact 6 ?_
    refine xcall (block_spec u (subA a4 (64 * q) 1 c4) (c4 - 64 * q) ((xs.drop (64 * q)).take 64) hdl) ?_
    rintro v H ⟨rfl, rfl⟩
    refine G.app ?_
    refine xst ?_
    refine xdact 7 ?_
    obtain ⟨u2, hu2⟩ : ∃ u2, procS ((xs.drop (64 * q)).take 64) u = u2 := ⟨_, rfl⟩
    refine xE 23 (.agg (wsV u2.l).toArray) rfl (by rw [hu2]) ?_
    refine xsta (cs := wsV u2.l) rfl rfl (wsV_one _) (wsV u2.l) (put_all (by rfl)) (Nat.le_of_ble_eq_true rfl) ?_
    refine xst ?_
    refine xdend ?_
    repeat (first | refine xst ?_ | refine xar ?_ | refine xop ?_ | refine xlen ?_ | refine xld rfl ?_ | refine xsto rfl ?_ | refine xno ?_ | refine xt ?_ | refine xf ?_)
    refine G.fin (q + 1) ⟨by show q + 1 ≤ Q; omega, by show Q - (q + 1) < Q - q; omega⟩ ⟨rfl, rfl, rfl, rfl, trivial⟩ ?_
    show Ent _ [sl 1 a4 xs.length c4 (bsV xs), pts b3 (wsV (procS ((xs.drop (64 * q)).take 64) (blks xs q)).l), pts b2 (zeros 32 [.int .u8 0])]
    rw [hu, hu2]
    exact ent_pick
  · obtain rfl : q = Q := by omega
    rw [hu] at hfin
    have hul : u.l.length = 8 := rfl
    repeat (first | refine xst ?_ | refine xar ?_ | refine xop ?_ | refine xlen ?_ | refine xld rfl ?_ | refine xsto rfl ?_ | refine xno ?_ | refine xt ?_ | refine xf ?_)
    refine xnew fun b6 => ?_
    have hst : ∀ m v, m < 32 → (bsV ys)[m]? = some v → (bsV (ys.take m) ++ zeros (32 - m) [.int .u8 0]).set m v = bsV (ys.take (m + 1)) ++ zeros (32 - (m + 1)) [.int .u8 0] := by
      intro m v hm hv
      rw [fill_set (by rw [bsV_length, List.length_take, hyl]; omega) hm, List.take_succ_eq_append_getElem (by omega), bsV_append]
      rw [bsV_get (by omega)] at hv
      congr 2
      exact congrArg (fun v => [v]) (Option.some.inj hv).symm
    have hrow : ∀ m, m ≤ 32 → (bsV (ys.take m) ++ zeros (32 - m) [.int .u8 0]).length = 32 := by
      intro m hm
      rw [List.length_append, bsV_length, List.length_take, hyl, zeros_length]; simp; omega
    refine xrep 0 (bsV (ys.take 0) ++ zeros (32 - 0) [.int .u8 0]) rfl rfl ?_
    repeat (first | refine xst ?_ | refine xar ?_ | refine xop ?_ | refine xlen ?_ | refine xld rfl ?_ | refine xsto rfl ?_ | refine xno ?_ | refine xt ?_ | refine xf ?_)
    refine G.loop (σ := Nat) (fun i => [(2, .pointer (some ⟨b2, 0, none⟩)), (3, .pointer (some ⟨b3, 0, none⟩)), (6, .pointer (some ⟨b6, 0, none⟩)), (7, .int .i64 (i : Int))])
      (fun i => [pts b6 (bsV (ys.take i) ++ zeros (32 - i) [.int .u8 0]), pts b3 (wsV u.l), pts b2 (zeros 32 [.int .u8 0])]) (fun i => i ≤ 32) (fun i => 32 - i) 0 (Nat.zero_le _) ⟨rfl, rfl, rfl, rfl, trivial⟩ ent_pick ?_
    intro i hi
    have hi : i ≤ 32 := hi
    repeat (first | refine xst ?_ | refine xar ?_ | refine xop ?_ | refine xlen ?_ | refine xld rfl ?_ | refine xsto rfl ?_ | refine xno ?_ | refine xt ?_ | refine xf ?_)
    refine xd (q := (i : Int) < 32) (fun h5 => ?_) (fun h5 => ?_)
    · have hi' : i < 32 := by omega
      have hi8 : i / 4 < u.l.length := by omega
      have hg : (bsV ys)[i]? = some (bV (wB u.l[i / 4] (24 - 8 * (i % 4)))) := by
        have := outS_get hi8 (j := i % 4) (Nat.mod_lt _ (by omega))
        rw [show 4 * (i / 4) + i % 4 = i by omega, ← hfin] at this
        rw [this, outB _ _ (Nat.mod_lt _ (by omega))]
      repeat (refine xnot 30 ?_; first | refine xst ?_ | refine xar ?_ | refine xop ?_ | refine xlen ?_ | refine xld rfl ?_ | refine xsto rfl ?_ | refine xno ?_ | refine xt ?_ | refine xf ?_)
      refine xE 30 (.int .i64 ((i / 4 : Nat) : Int)) rfl (congrArg (Value.int .i64) (by rw [show ((i : Int).tdiv (Int.ofNat (3 + 1))) = ((i / 4 : Nat) : Int) from tdiv_nat i 4]; exact wrap_nat (by omega))) ?_
      repeat (first | refine xst ?_ | refine xar ?_ | refine xop ?_ | refine xlen ?_ | refine xld rfl ?_ | refine xsto rfl ?_ | refine xno ?_ | refine xt ?_ | refine xf ?_)
      refine xix ?_ (hk := hi8)
      refine xEp 31 (i / 4) rfl ((offAt_one _ _).trans (Nat.zero_add _)) ?_
      refine xld rfl ?_ (hv := partF_one rfl (wsV_get hi8))
      repeat (refine xnot 34 ?_; first | refine xst ?_ | refine xar ?_ | refine xop ?_ | refine xlen ?_ | refine xld rfl ?_ | refine xsto rfl ?_ | refine xno ?_ | refine xt ?_ | refine xf ?_)
      refine xE 34 (.int .i64 ((i % 4 : Nat) : Int)) rfl (congrArg (Value.int .i64) (tmod_nat i 4)) ?_
      repeat (refine xnot 37 ?_; first | refine xst ?_ | refine xar ?_ | refine xop ?_ | refine xlen ?_ | refine xld rfl ?_ | refine xsto rfl ?_ | refine xno ?_ | refine xt ?_ | refine xf ?_)
      refine xE 37 (.int .u64 ((24 - 8 * (i % 4) : Nat) : Int)) rfl (congrArg (Value.int .u64) (by rw [show (24 : Int) - 8 * ((i % 4 : Nat) : Int) = ((24 - 8 * (i % 4) : Nat) : Int) by omega]; exact u64_wrap (by omega))) ?_
      repeat (refine xnot 39 ?_; first | refine xst ?_ | refine xar ?_ | refine xop ?_ | refine xlen ?_ | refine xld rfl ?_ | refine xsto rfl ?_ | refine xno ?_ | refine xt ?_ | refine xf ?_)
      refine xE 39 (bV (wB u.l[i / 4] (24 - 8 * (i % 4)))) rfl (congrArg (Value.int .u8) (wB_byte _ _ (by omega))) ?_
      repeat (first | refine xst ?_ | refine xar ?_ | refine xop ?_ | refine xlen ?_ | refine xld rfl ?_ | refine xsto rfl ?_ | refine xno ?_ | refine xt ?_ | refine xf ?_)
      refine xix ?_ (hk := hi')
      refine xEp 40 i rfl ((offAt_one _ _).trans (Nat.zero_add _)) ?_
      refine xsto rfl ?_ (hm := (putF_one (by rw [hrow _ (by omega)]; omega)).trans (congrArg some (hst i _ (by omega) hg)))
      repeat (first | refine xst ?_ | refine xar ?_ | refine xop ?_ | refine xlen ?_ | refine xld rfl ?_ | refine xsto rfl ?_ | refine xno ?_ | refine xt ?_ | refine xf ?_)
      exact G.fin (i + 1) ⟨by show i + 1 ≤ 32; omega, by show 32 - (i + 1) < 32 - i; omega⟩ ⟨rfl, rfl, rfl, rfl, trivial⟩ (Ent.refl _)
    · obtain rfl : i = 32 := by omega
      refine xrep 0 (bsV ys) rfl (by rw [List.take_of_length_le (by omega)]; simp [zeros]) ?_
      have hbl : (bsV ys).length = 32 := by rw [bsV_length, hyl]
      repeat (first | refine xst ?_ | refine xar ?_ | refine xop ?_ | refine xlen ?_ | refine xld rfl ?_ | refine xsto rfl ?_ | refine xno ?_ | refine xt ?_ | refine xf ?_)
      refine xld rfl ?_ (hv := partF_all rfl hbl)
      refine xsta (cs := bsV ys) rfl hbl (bsV_one ys) (bsV ys) (put_all (by rw [zeros_length, hbl]; rfl)) (by rw [zeros_length, hbl]; exact Nat.le_of_ble_eq_true rfl) ?_
      refine xst ?_
      refine xretm [] rfl (.c .nil rfl rfl (partF_all rfl hbl)) ?_
      rw [hys]
      exact ⟨rfl, rfl⟩
end Go.Proofs.YthlaacnjgdmakaaDoor

/- The document's answer, layer 7: instructions. -/
namespace Go.Proofs.YthlaacnjgdmakaaDoor
open Go.W

theorem rnumberI_spec (op x b c : Int) (hb : 0 ≤ b ∧ b ≤ 255) (hc : 0 ≤ c ∧ c ≤ 255) :
    Fun Tryd.prog 76 [.agg #[.int .u8 op, .int .u8 x, .int .u8 b, .int .u8 c]] [] [] fun v H => v = .int .i64 (numI op b c) ∧ H = [] := by
  refine xenter (p := pg) Tryd.call76 Tryd.func76 fun C => ?_
  repeat (first | refine xst ?_ | refine xar ?_ | refine xop ?_ | refine xlen ?_ | refine xld rfl ?_ | refine xsto rfl ?_ | refine xno ?_ | refine xt ?_ | refine xf ?_)
  refine xnew fun b1 => ?_
  repeat (first | refine xst ?_ | refine xar ?_ | refine xop ?_ | refine xlen ?_ | refine xld rfl ?_ | refine xsto rfl ?_ | refine xno ?_ | refine xt ?_ | refine xf ?_)
  refine xbc 15 (fun h1 => ?_) (fun h1 => ?_)
  · repeat (first | refine xst ?_ | refine xar ?_ | refine xop ?_ | refine xlen ?_ | refine xld rfl ?_ | refine xsto rfl ?_ | refine xno ?_ | refine xt ?_ | refine xf ?_)
    refine xd (fun h2 => ?_) (fun h2 => ?_)
    · repeat (first | refine xst ?_ | refine xar ?_ | refine xop ?_ | refine xlen ?_ | refine xld rfl ?_ | refine xsto rfl ?_ | refine xno ?_ | refine xt ?_ | refine xf ?_)
      refine xret [] ⟨?_, rfl⟩
      simp [resV, numI]; omega
    · repeat (first | refine xst ?_ | refine xar ?_ | refine xop ?_ | refine xlen ?_ | refine xld rfl ?_ | refine xsto rfl ?_ | refine xno ?_ | refine xt ?_ | refine xf ?_)
      refine xret [] ⟨?_, rfl⟩
      simp [resV, numI]; omega
  · repeat (first | refine xst ?_ | refine xar ?_ | refine xop ?_ | refine xlen ?_ | refine xld rfl ?_ | refine xsto rfl ?_ | refine xno ?_ | refine xt ?_ | refine xf ?_)
    refine xret [] ⟨?_, rfl⟩
    simp [resV, numI, h1]
theorem rnumber_spec (i : Ins) : Fun Tryd.prog 76 [insA i] [] [] fun v H => v = .int .i64 i.num ∧ H = [] := by
  have := i.b.toNat_lt
  have := i.c.toNat_lt
  exact rnumberI_spec _ _ _ _ (by omega) (by omega)

set_option maxHeartbeats 4000000 in
theorem formedI_spec (op x b c : Int) (ho : 0 ≤ op) (hx : 0 ≤ x) (hb : 0 ≤ b) (hc : 0 ≤ c) :
    Fun Tryd.prog 75 [.agg #[.int .u8 op, .int .u8 x, .int .u8 b, .int .u8 c]] [] [] fun v H => v = .bool (wfI op x b c) ∧ H = [] := by
  refine xenter (p := pg) Tryd.call75 Tryd.func75 fun C => ?_
  repeat (first | refine xst ?_ | refine xar ?_ | refine xop ?_ | refine xlen ?_ | refine xld rfl ?_ | refine xsto rfl ?_ | refine xno ?_ | refine xt ?_ | refine xf ?_)
  refine xnew fun b1 => ?_
  repeat (first | refine xst ?_ | refine xar ?_ | refine xop ?_ | refine xlen ?_ | refine xld rfl ?_ | refine xsto rfl ?_ | refine xno ?_ | refine xt ?_ | refine xf ?_)
  refine xdraw ?_
  refine xdop 0 ?_
  refine xdld 1 rfl rfl ?_
  refine xdop 2 ?_
  refine xdop 3 ?_
  refine xdld 4 rfl rfl ?_
  refine xdop 5 ?_
  refine xdop 6 ?_
  refine xdld 7 rfl rfl ?_
  refine xdop 8 ?_
  refine xdop 9 ?_
  refine xdop 10 ?_
  refine xdop 11 ?_
  refine xdend ?_
  repeat' (first | refine xst ?_ | refine xop ?_ | refine xld rfl ?_ | refine xno ?_ | refine xt ?_ | refine xf ?_ | refine xbc 21 (fun _ => ?_) (fun _ => ?_) | refine xbc 26 (fun _ => ?_) (fun _ => ?_) | refine xbc 34 (fun _ => ?_) (fun _ => ?_) | refine xbc 44 (fun _ => ?_) (fun _ => ?_) | refine xbc 47 (fun _ => ?_) (fun _ => ?_) | refine xbc 55 (fun _ => ?_) (fun _ => ?_) | refine xbc 61 (fun _ => ?_) (fun _ => ?_) | refine xbc 64 (fun _ => ?_) (fun _ => ?_) | refine xbc 70 (fun _ => ?_) (fun _ => ?_) | refine xbc 76 (fun _ => ?_) (fun _ => ?_) | refine xbc 88 (fun _ => ?_) (fun _ => ?_) | refine xbc 93 (fun _ => ?_) (fun _ => ?_) | refine xbc 98 (fun _ => ?_) (fun _ => ?_) | refine xd (fun _ => ?_) (fun _ => ?_))
  all_goals refine xret [] ⟨?_, rfl⟩
  all_goals (simp only [resV]; congr 1; unfold wfI; rw [Bool.eq_iff_iff]; (repeat' split) <;> simp only [decide_eq_true_eq, Bool.false_eq_true, false_iff] <;> omega)
theorem formed_spec (i : Ins) : Fun Tryd.prog 75 [insA i] [] [] fun v H => v = .bool i.wf ∧ H = [] :=
  formedI_spec _ _ _ _ (Int.natCast_nonneg _) (Int.natCast_nonneg _) (Int.natCast_nonneg _) (Int.natCast_nonneg _)
end Go.Proofs.YthlaacnjgdmakaaDoor

/- The document's answer, layer 7: programs. -/
namespace Go.Proofs.YthlaacnjgdmakaaDoor
open Go.W

theorem rlist_spec (a : Option Addr) (n cap : Nat) (bs : List UInt8) (hn : n = bs.length) (hl : n ≤ 1000000) (h4 : bs.length % 4 = 0) : Fun Tryd.prog 25 [.slice a n cap] [slR 1 a n cap (bsV bs)] []
    fun v H => ∃ a' cap', v = .slice a' (listI bs).length cap' ∧ H = [sl 4 a' (listI bs).length cap' (inssV (listI bs))] := by
  subst hn
  refine xenter (p := pg) Tryd.call25 Tryd.func25 fun C => ?_
  have hr := RP.slR (RP.of C (X := slR 1 a bs.length cap (bsV bs)) (by simp))
  obtain ⟨l, hll⟩ : ∃ l, listI bs = l := ⟨_, rfl⟩
  have hlen : l.length * 4 = bs.length := by rw [← hll, listI_len h4]; omega
  have hel : ∀ k (hk : k < l.length) j (hj : j < 4), (bsV bs)[4 * k + j]? = (insV l[k])[j]? := fun k hk j hj => by
    subst hll
    have := listI_get h4 k hk j hj
    rw [← this, ← bsV_drop, List.getElem?_drop]
  repeat (first | refine xst ?_ | refine xar ?_ | refine xop ?_ | refine xlen ?_ | refine xld rfl ?_ | refine xsto rfl ?_ | refine xno ?_ | refine xt ?_ | refine xf ?_)
  refine G.sln 4 ?_
  refine G.loop (σ := Nat × Option Addr × Nat) (fun s => [(0, .slice a bs.length cap), (3, .slice s.2.1 s.1 s.2.2), (4, .int .i64 ((4 * s.1 : Nat) : Int))]) (fun s => [sl 4 s.2.1 s.1 s.2.2 (inssV (l.take s.1))]) (fun s => s.1 ≤ l.length) (fun s => l.length - s.1) (0, none, 0) (Nat.zero_le _) ⟨rfl, rfl, rfl, trivial⟩ (Ent.refl _) ?_
  rintro ⟨k, a', cap'⟩ hk
  have hk : k ≤ l.length := hk
  show G C _ [(0, .slice a bs.length cap), (3, .slice a' k cap'), (4, .int .i64 ((4 * k : Nat) : Int))] [sl 4 a' k cap' (inssV (l.take k))]
  repeat (first | refine xst ?_ | refine xar ?_ | refine xop ?_ | refine xlen ?_ | refine xld rfl ?_ | refine xsto rfl ?_ | refine xno ?_ | refine xt ?_ | refine xf ?_)
  refine xd (q := ((4 * k : Nat) : Int) + 3 < (bs.length : Int)) (fun h1 => ?_) (fun h1 => ?_)
  · have hk' : k < l.length := by omega
    obtain ⟨b, off, rfl, hsb⟩ := hr.some (by omega)
    repeat (first | refine xst ?_ | refine xar ?_ | refine xop ?_ | refine xlen ?_ | refine xld rfl ?_ | refine xsto rfl ?_ | refine xno ?_ | refine xt ?_ | refine xf ?_)
    refine xdraw ?_
    refine xdop 0 ?_
    refine xdop 1 ?_
    refine xdop 2 ?_
    refine xdix 3 ?_ (hk := by first | omega | exact Nat.le_of_ble_eq_true rfl)
    refine xdldl 4 rfl rfl (4 * k) (show (bsV bs)[4 * k]? = some (bV l[k].op) from hel k hk' 0 (by omega)) (by omega) ?_ (hj := offAt_one _ _)
    refine xdop 5 ?_
    refine xdop 6 ?_
    (first | refine xdar 7 ?_ | refine xdop 7 ?_)
    refine xE 19 (.int .i64 ((4 * k + 1 : Nat) : Int)) rfl (congrArg (Value.int .i64) (by omega)) ?_
    refine xdix 8 ?_ (hk := by first | omega | exact Nat.le_of_ble_eq_true rfl)
    refine xdldl 9 rfl rfl (4 * k + 1) (show (bsV bs)[4 * k + 1]? = some (bV l[k].a) from hel k hk' 1 (by omega)) (by omega) ?_ (hj := offAt_one _ _)
    refine xdop 10 ?_
    refine xdop 11 ?_
    (first | refine xdar 12 ?_ | refine xdop 12 ?_)
    refine xE 24 (.int .i64 ((4 * k + 2 : Nat) : Int)) rfl (congrArg (Value.int .i64) (by omega)) ?_
    refine xdix 13 ?_ (hk := by first | omega | exact Nat.le_of_ble_eq_true rfl)
    refine xdldl 14 rfl rfl (4 * k + 2) (show (bsV bs)[4 * k + 2]? = some (bV l[k].b) from hel k hk' 2 (by omega)) (by omega) ?_ (hj := offAt_one _ _)
    refine xdop 15 ?_
    refine xdop 16 ?_
    (first | refine xdar 17 ?_ | refine xdop 17 ?_)
    refine xE 29 (.int .i64 ((4 * k + 3 : Nat) : Int)) rfl (congrArg (Value.int .i64) (by omega)) ?_
    refine xdix 18 ?_ (hk := by first | omega | exact Nat.le_of_ble_eq_true rfl)
    refine xdldl 19 rfl rfl (4 * k + 3) (show (bsV bs)[4 * k + 3]? = some (bV l[k].c) from hel k hk' 3 (by omega)) (by omega) ?_ (hj := offAt_one _ _)
    refine xdop 20 ?_
    refine xdact 21 ?_
    refine xbsl fun b3 => ?_
    refine xst ?_
    refine xdact 22 ?_
    refine xapp (inssV (l.take k)) rfl (SrcOk.blk (ys := insV l[k]) rfl (by simp) (by simp [insV, bV, Value.oneCell'])) (by omega) fun a'' cap'' => ?_
    refine xst ?_
    refine xdop 23 ?_
    refine xdend ?_
    repeat (first | refine xst ?_ | refine xar ?_ | refine xop ?_ | refine xlen ?_ | refine xld rfl ?_ | refine xsto rfl ?_ | refine xno ?_ | refine xt ?_ | refine xf ?_)
    refine G.fin (k + 1, a'', cap'') ⟨by show k + 1 ≤ l.length; omega, by show l.length - (k + 1) < l.length - k; omega⟩ ⟨rfl, rfl, ?_, trivial⟩ ?_
    · show W.look _ 4 = some (.int .i64 ((4 * (k + 1) : Nat) : Int))
      rw [show ((4 * (k + 1) : Nat) : Int) = ((4 * k : Nat) : Int) + 4 by omega]; rfl
    · show Ent _ [sl 4 a'' (k + 1) cap'' (inssV (l.take (k + 1)))]
      have : inssV (l.take (k + 1)) = inssV (l.take k) ++ insV l[k] := by
        unfold inssV; rw [List.take_succ_eq_append_getElem hk', List.flatMap_append, List.flatMap_cons, List.flatMap_nil, List.append_nil]
      rw [this]
      exact ent_pick
  · obtain rfl : k = l.length := by omega
    repeat (first | refine xst ?_ | refine xar ?_ | refine xop ?_ | refine xlen ?_ | refine xld rfl ?_ | refine xsto rfl ?_ | refine xno ?_ | refine xt ?_ | refine xf ?_)
    refine xretp [0] ?_
    rw [hll, List.take_length]
    exact ⟨_, _, rfl, rfl⟩

/-- The fault's number, and its place. -/
def ckP (l : List Ins) : Int × Int := match ckF l with | [] => (0, 0) | (c, x) :: _ => (c, x)
theorem rcheck_spec (a : Option Addr) (n cap : Nat) (l : List Ins) (hn : n = l.length) : Fun Tryd.prog 44 [.slice a n cap] [slR 4 a n cap (inssV l)] [] fun v H => v = .tuple #[.int .i64 (ckP l).1, .int .i64 (ckP l).2] ∧ H = [] := by
  subst hn
  refine xenter (p := pg) Tryd.call44 Tryd.func44 fun C => ?_
  have hr := RP.slR (RP.of C (X := slR 4 a l.length cap (inssV l)) (by simp))
  have hbad : ∀ (h : l.length = 0 ∨ l.length > 128), ckP l = (1, 0) := by
    intro h; unfold ckP ckF; rw [if_pos h]
  repeat (first | refine xst ?_ | refine xar ?_ | refine xop ?_ | refine xlen ?_ | refine xld rfl ?_ | refine xsto rfl ?_ | refine xno ?_ | refine xt ?_ | refine xf ?_)
  refine xbc (q := (l.length : Int) < 1) 9 (fun h1 => ?_) (fun h1 => ?_)
  · repeat (first | refine xst ?_ | refine xar ?_ | refine xop ?_ | refine xlen ?_ | refine xld rfl ?_ | refine xsto rfl ?_ | refine xno ?_ | refine xt ?_ | refine xf ?_)
    refine xret [] ⟨?_, rfl⟩
    rw [hbad (by omega)]; rfl
  · repeat (first | refine xst ?_ | refine xar ?_ | refine xop ?_ | refine xlen ?_ | refine xld rfl ?_ | refine xsto rfl ?_ | refine xno ?_ | refine xt ?_ | refine xf ?_)
    refine xd (q := 128 < (l.length : Int)) (fun h2 => ?_) (fun h2 => ?_)
    · repeat (first | refine xst ?_ | refine xar ?_ | refine xop ?_ | refine xlen ?_ | refine xld rfl ?_ | refine xsto rfl ?_ | refine xno ?_ | refine xt ?_ | refine xf ?_)
      refine xret [] ⟨?_, rfl⟩
      rw [hbad (by omega)]; rfl
    · repeat (first | refine xst ?_ | refine xar ?_ | refine xop ?_ | refine xlen ?_ | refine xld rfl ?_ | refine xsto rfl ?_ | refine xno ?_ | refine xt ?_ | refine xf ?_)
      obtain ⟨b, off, rfl, hsb⟩ := hr.some (by omega)
      refine G.loop (σ := Nat) (fun k => [(0, .slice (some ⟨b, off, none⟩) l.length cap), (4, .int .i64 (k : Int))])
        (fun _ => []) (fun k => k ≤ l.length ∧ ckGo l.length 0 l = ckGo l.length k (l.drop k)) (fun k => l.length - k) 0 ⟨Nat.zero_le _, rfl⟩ ⟨rfl, rfl, trivial⟩ (Ent.refl _) ?_
      rintro k ⟨hk, hgo⟩
      repeat (first | refine xst ?_ | refine xar ?_ | refine xop ?_ | refine xlen ?_ | refine xld rfl ?_ | refine xsto rfl ?_ | refine xno ?_ | refine xt ?_ | refine xf ?_)
      refine xd (q := (k : Int) < (l.length : Int)) (fun h3 => ?_) (fun h3 => ?_)
      · have hk' : k < l.length := by omega
        have hel : ((inssV l).drop (k * 4)).take 4 = insV l[k] := flat_elem insV_len l k hk'
        have hop : (inssV l)[k * 4]? = some (bV l[k].op) := by
          have := flat_get insV_len l k 0 hk' (by omega)
          simpa [inssV, insV] using this
        have hdrop : l.drop k = l[k] :: l.drop (k + 1) := List.drop_eq_getElem_cons hk'
        rw [hdrop] at hgo
        repeat (first | refine xst ?_ | refine xar ?_ | refine xop ?_ | refine xlen ?_ | refine xld rfl ?_ | refine xsto rfl ?_ | refine xno ?_ | refine xt ?_ | refine xf ?_)
        refine xix ?_
        refine xldla rfl (k * 4) (insV l[k]) rfl hel (by rw [inssV_len]; show k * 4 + 4 ≤ _; omega) ?_
        refine xcall (formed_spec l[k]) ?_
        rintro v H ⟨rfl, rfl⟩
        refine G.app ?_
        repeat (first | refine xst ?_ | refine xar ?_ | refine xop ?_ | refine xlen ?_ | refine xld rfl ?_ | refine xsto rfl ?_ | refine xno ?_ | refine xt ?_ | refine xf ?_)
        refine xb (fun hw => ?_) (fun hw => ?_)
        · have hw : l[k].wf = false := by simpa using hw
          repeat (first | refine xst ?_ | refine xar ?_ | refine xop ?_ | refine xlen ?_ | refine xld rfl ?_ | refine xsto rfl ?_ | refine xno ?_ | refine xt ?_ | refine xf ?_)
          refine xret [] ⟨?_, rfl⟩
          have e : ckP l = (3, (k : Int)) := by
            unfold ckP ckF; rw [if_neg (by omega), hgo]; simp only [ckGo, hw, if_true]
          rw [e]; rfl
        · have hw : l[k].wf = true := by simpa using hw
          repeat (first | refine xst ?_ | refine xar ?_ | refine xop ?_ | refine xlen ?_ | refine xld rfl ?_ | refine xsto rfl ?_ | refine xno ?_ | refine xt ?_ | refine xf ?_)
          refine xix ?_
          repeat (first | refine xst ?_ | refine xar ?_ | refine xop ?_ | refine xlen ?_ | refine xld rfl ?_ | refine xsto rfl ?_ | refine xno ?_ | refine xt ?_ | refine xf ?_)
          refine xldl rfl (k * 4) hop ?_
          repeat (first | refine xst ?_ | refine xar ?_ | refine xop ?_ | refine xlen ?_ | refine xld rfl ?_ | refine xsto rfl ?_ | refine xno ?_ | refine xt ?_ | refine xf ?_)
          refine xbc (q := (l[k].op.toNat : Int) = 15) 33 (fun g1 => ?_) (fun g1 => ?_)
          · have hl : l[k].leads = true := by unfold Ins.leads; rw [decide_eq_true_eq]; exact .inl g1
            repeat (first | refine xst ?_ | refine xar ?_ | refine xop ?_ | refine xlen ?_ | refine xld rfl ?_ | refine xsto rfl ?_ | refine xno ?_ | refine xt ?_ | refine xf ?_)
            refine xix ?_
            refine xldla rfl (k * 4) (insV l[k]) rfl hel (by rw [inssV_len]; show k * 4 + 4 ≤ _; omega) ?_
            refine xcall (rnumber_spec l[k]) ?_
            rintro v H ⟨rfl, rfl⟩
            refine G.app ?_
            repeat (first | refine xst ?_ | refine xar ?_ | refine xop ?_ | refine xlen ?_ | refine xld rfl ?_ | refine xsto rfl ?_ | refine xno ?_ | refine xt ?_ | refine xf ?_)
            refine xd (q := (l.length : Int) ≤ l[k].num) (fun hn => ?_) (fun hn => ?_)
            · repeat (first | refine xst ?_ | refine xar ?_ | refine xop ?_ | refine xlen ?_ | refine xld rfl ?_ | refine xsto rfl ?_ | refine xno ?_ | refine xt ?_ | refine xf ?_)
              refine xret [] ⟨?_, rfl⟩
              have e : ckP l = (4, (k : Int)) := by
                unfold ckP ckF; rw [if_neg (by omega), hgo]
                simp only [ckGo, hw, hl, Bool.true_eq_false, if_false, true_and]
                rw [if_pos (show l[k].num ≥ (l.length : Int) by omega)]
              rw [e]; rfl
            · repeat (first | refine xst ?_ | refine xar ?_ | refine xop ?_ | refine xlen ?_ | refine xld rfl ?_ | refine xsto rfl ?_ | refine xno ?_ | refine xt ?_ | refine xf ?_)
              refine G.fin (k + 1) ⟨⟨by show k + 1 ≤ _; omega, ?_⟩, by show l.length - (k + 1) < l.length - k; omega⟩ ⟨rfl, rfl, trivial⟩ ent_pick
              rw [hgo]; simp only [ckGo, hw, hl, Bool.true_eq_false, if_false, true_and]; rw [if_neg (by omega)]
          · repeat (first | refine xst ?_ | refine xar ?_ | refine xop ?_ | refine xlen ?_ | refine xld rfl ?_ | refine xsto rfl ?_ | refine xno ?_ | refine xt ?_ | refine xf ?_)
            refine xix ?_
            repeat (first | refine xst ?_ | refine xar ?_ | refine xop ?_ | refine xlen ?_ | refine xld rfl ?_ | refine xsto rfl ?_ | refine xno ?_ | refine xt ?_ | refine xf ?_)
            refine xldl rfl (k * 4) hop ?_
            repeat (first | refine xst ?_ | refine xar ?_ | refine xop ?_ | refine xlen ?_ | refine xld rfl ?_ | refine xsto rfl ?_ | refine xno ?_ | refine xt ?_ | refine xf ?_)
            refine xbc (q := (l[k].op.toNat : Int) = 16) 41 (fun g2 => ?_) (fun g2 => ?_)
            · have hl : l[k].leads = true := by unfold Ins.leads; rw [decide_eq_true_eq]; exact .inr g2
              repeat (first | refine xst ?_ | refine xar ?_ | refine xop ?_ | refine xlen ?_ | refine xld rfl ?_ | refine xsto rfl ?_ | refine xno ?_ | refine xt ?_ | refine xf ?_)
              refine xix ?_
              refine xldla rfl (k * 4) (insV l[k]) rfl hel (by rw [inssV_len]; show k * 4 + 4 ≤ _; omega) ?_
              refine xcall (rnumber_spec l[k]) ?_
              rintro v H ⟨rfl, rfl⟩
              refine G.app ?_
              repeat (first | refine xst ?_ | refine xar ?_ | refine xop ?_ | refine xlen ?_ | refine xld rfl ?_ | refine xsto rfl ?_ | refine xno ?_ | refine xt ?_ | refine xf ?_)
              refine xd (q := (l.length : Int) ≤ l[k].num) (fun hn => ?_) (fun hn => ?_)
              · repeat (first | refine xst ?_ | refine xar ?_ | refine xop ?_ | refine xlen ?_ | refine xld rfl ?_ | refine xsto rfl ?_ | refine xno ?_ | refine xt ?_ | refine xf ?_)
                refine xret [] ⟨?_, rfl⟩
                have e : ckP l = (4, (k : Int)) := by
                  unfold ckP ckF; rw [if_neg (by omega), hgo]
                  simp only [ckGo, hw, hl, Bool.true_eq_false, if_false, true_and]
                  rw [if_pos (show l[k].num ≥ (l.length : Int) by omega)]
                rw [e]; rfl
              · repeat (first | refine xst ?_ | refine xar ?_ | refine xop ?_ | refine xlen ?_ | refine xld rfl ?_ | refine xsto rfl ?_ | refine xno ?_ | refine xt ?_ | refine xf ?_)
                refine G.fin (k + 1) ⟨⟨by show k + 1 ≤ _; omega, ?_⟩, by show l.length - (k + 1) < l.length - k; omega⟩ ⟨rfl, rfl, trivial⟩ ent_pick
                rw [hgo]; simp only [ckGo, hw, hl, Bool.true_eq_false, if_false, true_and]; rw [if_neg (by omega)]
            · have hl : l[k].leads = false := by unfold Ins.leads; rw [decide_eq_false_iff_not]; rintro (h | h); exact g1 h; exact g2 h
              repeat (first | refine xst ?_ | refine xar ?_ | refine xop ?_ | refine xlen ?_ | refine xld rfl ?_ | refine xsto rfl ?_ | refine xno ?_ | refine xt ?_ | refine xf ?_)
              refine G.fin (k + 1) ⟨⟨by show k + 1 ≤ _; omega, ?_⟩, by show l.length - (k + 1) < l.length - k; omega⟩ ⟨rfl, rfl, trivial⟩ ent_pick
              rw [hgo]; simp [ckGo, hw, hl]
      · obtain rfl : k = l.length := by omega
        have hgo : ckGo l.length 0 l = [] := by rw [hgo]; simp [ckGo]
        have hl1 : l.length - 1 < l.length := by omega
        have hlast : ckLast l = decide ((l[l.length - 1].op.toNat : Int) = 0 ∨ (l[l.length - 1].op.toNat : Int) = 15) := by
          unfold ckLast
          rw [List.getLast?_eq_getElem?, List.getElem?_eq_getElem hl1]
        have hcell : (inssV l)[(l.length - 1) * 4]? = some (bV l[l.length - 1].op) := by
          have := flat_get insV_len l (l.length - 1) 0 hl1 (by omega)
          simpa [inssV, insV] using this
        have e0 : ckF l = if ckLast l then [] else [(2, (l.length : Int) - 1)] := by
          unfold ckF; rw [if_neg (by omega), hgo]
        have hpred : ((l.length : Int) - 1) = ((l.length - 1 : Nat) : Int) := by omega
        repeat (refine xnot 54 ?_; first | refine xst ?_ | refine xar ?_ | refine xop ?_ | refine xlen ?_ | refine xld rfl ?_ | refine xsto rfl ?_ | refine xno ?_ | refine xt ?_ | refine xf ?_)
        refine xE 54 (.int .i64 ((l.length - 1 : Nat) : Int)) rfl (by rw [hpred]) ?_
        repeat (first | refine xst ?_ | refine xar ?_ | refine xop ?_ | refine xlen ?_ | refine xld rfl ?_ | refine xsto rfl ?_ | refine xno ?_ | refine xt ?_ | refine xf ?_)
        refine xix ?_
        repeat (first | refine xst ?_ | refine xar ?_ | refine xop ?_ | refine xlen ?_ | refine xld rfl ?_ | refine xsto rfl ?_ | refine xno ?_ | refine xt ?_ | refine xf ?_)
        refine xldl rfl ((l.length - 1) * 4) hcell ?_
        repeat (first | refine xst ?_ | refine xar ?_ | refine xop ?_ | refine xlen ?_ | refine xld rfl ?_ | refine xsto rfl ?_ | refine xno ?_ | refine xt ?_ | refine xf ?_)
        refine xbc (q := (l[l.length - 1].op.toNat : Int) ≠ 0) 61 (fun g1 => ?_) (fun g1 => ?_)
        · repeat (first | refine xst ?_ | refine xar ?_ | refine xop ?_ | refine xlen ?_ | refine xld rfl ?_ | refine xsto rfl ?_ | refine xno ?_ | refine xt ?_ | refine xf ?_)
          refine xix ?_
          repeat (first | refine xst ?_ | refine xar ?_ | refine xop ?_ | refine xlen ?_ | refine xld rfl ?_ | refine xsto rfl ?_ | refine xno ?_ | refine xt ?_ | refine xf ?_)
          refine xldl rfl ((l.length - 1) * 4) hcell ?_
          repeat (first | refine xst ?_ | refine xar ?_ | refine xop ?_ | refine xlen ?_ | refine xld rfl ?_ | refine xsto rfl ?_ | refine xno ?_ | refine xt ?_ | refine xf ?_)
          refine xd (q := (l[l.length - 1].op.toNat : Int) ≠ 15) (fun g2 => ?_) (fun g2 => ?_)
          · repeat (first | refine xst ?_ | refine xar ?_ | refine xop ?_ | refine xlen ?_ | refine xld rfl ?_ | refine xsto rfl ?_ | refine xno ?_ | refine xt ?_ | refine xf ?_)
            refine xret [] ⟨?_, rfl⟩
            have e : ckP l = (2, (l.length : Int) - 1) := by
              unfold ckP; rw [e0, hlast, decide_eq_false (by rintro (h | h); exact g1 h; exact g2 h)]; rfl
            rw [e, hpred]; rfl
          · repeat (first | refine xst ?_ | refine xar ?_ | refine xop ?_ | refine xlen ?_ | refine xld rfl ?_ | refine xsto rfl ?_ | refine xno ?_ | refine xt ?_ | refine xf ?_)
            refine xret [] ⟨?_, rfl⟩
            have e : ckP l = (0, 0) := by
              unfold ckP; rw [e0, hlast, decide_eq_true (.inr (by omega))]; rfl
            rw [e]; rfl
        · repeat (first | refine xst ?_ | refine xar ?_ | refine xop ?_ | refine xlen ?_ | refine xld rfl ?_ | refine xsto rfl ?_ | refine xno ?_ | refine xt ?_ | refine xf ?_)
          refine xret [] ⟨?_, rfl⟩
          have e : ckP l = (0, 0) := by
            unfold ckP; rw [e0, hlast, decide_eq_true (.inl (by omega))]; rfl
          rw [e]; rfl
end Go.Proofs.YthlaacnjgdmakaaDoor

/- The document's answer, layer 19: may a manifest be; is it the image; and whether an error is told. -/
namespace Go.Proofs.YthlaacnjgdmakaaDoor
open Go.W

theorem may_iff (m : Man) : m.ok = true ↔ 0 ≤ m.part ∧ m.part ≤ 7 ∧ 1 ≤ m.size ∧ m.size ≤ 512 ∧ m.size.tdiv 4 * 4 = m.size := by
  unfold Man.ok
  rw [decide_eq_true_eq]
  constructor
  · rintro ⟨h1, h2, h3, h4, h5⟩
    rw [Int.tmod_eq_emod_of_nonneg (by omega)] at h5
    rw [Int.tdiv_eq_ediv_of_nonneg (by omega)]
    omega
  · rintro ⟨h1, h2, h3, h4, h5⟩
    rw [Int.tdiv_eq_ediv_of_nonneg (by omega)] at h5
    rw [Int.tmod_eq_emod_of_nonneg (by omega)]
    omega
theorem may_spec (m : Man) : Fun Tryd.prog 17 [.agg m.v.toArray] [] [] fun v H => v = .bool m.ok ∧ H = [] := by
  have hno : ∀ (h : ¬ (0 ≤ m.part ∧ m.part ≤ 7 ∧ 1 ≤ m.size ∧ m.size ≤ 512)), m.ok = false := by
    intro h
    cases ho : m.ok with
    | false => rfl
    | true => have := (may_iff m).1 ho; omega
  refine xenter (p := pg) Tryd.call17 Tryd.func17 fun C => ?_
  repeat (first | refine xst ?_ | refine xar ?_ | refine xop ?_ | refine xlen ?_ | refine xld rfl ?_ | refine xsto rfl ?_ | refine xno ?_ | refine xt ?_ | refine xf ?_)
  refine xnew fun b => ?_
  refine xrep 0 m.v rfl rfl ?_
  repeat (first | refine xst ?_ | refine xar ?_ | refine xop ?_ | refine xlen ?_ | refine xld rfl ?_ | refine xsto rfl ?_ | refine xno ?_ | refine xt ?_ | refine xf ?_)
  refine xbc (q := m.part < 0) 6 (fun h1 => ?_) (fun h1 => ?_)
  · repeat (first | refine xst ?_ | refine xar ?_ | refine xop ?_ | refine xlen ?_ | refine xld rfl ?_ | refine xsto rfl ?_ | refine xno ?_ | refine xt ?_ | refine xf ?_)
    refine xret [] ⟨?_, rfl⟩
    rw [hno (by omega)]; rfl
  · repeat (first | refine xst ?_ | refine xar ?_ | refine xop ?_ | refine xlen ?_ | refine xld rfl ?_ | refine xsto rfl ?_ | refine xno ?_ | refine xt ?_ | refine xf ?_)
    refine xbc (q := 7 < m.part) 11 (fun h2 => ?_) (fun h2 => ?_)
    · repeat (first | refine xst ?_ | refine xar ?_ | refine xop ?_ | refine xlen ?_ | refine xld rfl ?_ | refine xsto rfl ?_ | refine xno ?_ | refine xt ?_ | refine xf ?_)
      refine xret [] ⟨?_, rfl⟩
      rw [hno (by omega)]; rfl
    · repeat (first | refine xst ?_ | refine xar ?_ | refine xop ?_ | refine xlen ?_ | refine xld rfl ?_ | refine xsto rfl ?_ | refine xno ?_ | refine xt ?_ | refine xf ?_)
      refine xbc (q := m.size < 1) 16 (fun h3 => ?_) (fun h3 => ?_)
      · repeat (first | refine xst ?_ | refine xar ?_ | refine xop ?_ | refine xlen ?_ | refine xld rfl ?_ | refine xsto rfl ?_ | refine xno ?_ | refine xt ?_ | refine xf ?_)
        refine xret [] ⟨?_, rfl⟩
        rw [hno (by omega)]; rfl
      · repeat (first | refine xst ?_ | refine xar ?_ | refine xop ?_ | refine xlen ?_ | refine xld rfl ?_ | refine xsto rfl ?_ | refine xno ?_ | refine xt ?_ | refine xf ?_)
        refine xd (q := 512 < m.size) (fun h4 => ?_) (fun h4 => ?_)
        · repeat (first | refine xst ?_ | refine xar ?_ | refine xop ?_ | refine xlen ?_ | refine xld rfl ?_ | refine xsto rfl ?_ | refine xno ?_ | refine xt ?_ | refine xf ?_)
          refine xret [] ⟨?_, rfl⟩
          rw [hno (by omega)]; rfl
        · have hd : 0 ≤ m.size.tdiv 4 ∧ m.size.tdiv 4 ≤ 512 := by rw [Int.tdiv_eq_ediv_of_nonneg (by omega)]; omega
          repeat (refine xnot 23 ?_; first | refine xst ?_ | refine xar ?_ | refine xop ?_ | refine xlen ?_ | refine xld rfl ?_ | refine xsto rfl ?_ | refine xno ?_ | refine xt ?_ | refine xf ?_)
          refine xE 23 (.int .i64 (m.size.tdiv 4)) rfl (congrArg (Value.int .i64) (wrap_in (k := .i64) ⟨by show _ ≤ m.size.tdiv 4; omega, by show m.size.tdiv 4 ≤ _; omega⟩)) ?_
          repeat (first | refine xst ?_ | refine xar ?_ | refine xop ?_ | refine xlen ?_ | refine xld rfl ?_ | refine xsto rfl ?_ | refine xno ?_ | refine xt ?_ | refine xf ?_)
          refine xret [] ⟨?_, rfl⟩
          refine congrArg Value.bool (Bool.eq_iff_iff.2 ?_)
          rw [decide_eq_true_eq, may_iff]
          exact ⟨fun h => ⟨by omega, by omega, by omega, by omega, h⟩, fun h => h.2.2.2.2⟩

def posL (l : List (Int × Int)) : List Int := l.map (·.2)
theorem posV_posL (l : List (Int × Int)) : posV l = intV (posL l) := by simp [posV, posL, intV]
theorem progF_ok {m : Man} {bs : List UInt8} (hok : m.ok = true) (hl : (bs.length : Int) = m.size) (hs : shaF bs = m.sum) : progF m bs = inF (decF bs) m.ver.toNat ∧ bs.length % 4 = 0 := by
  have h4 : m.size.tmod 4 = 0 := by unfold Man.ok at hok; rw [decide_eq_true_eq] at hok; exact hok.2.2.2.2
  have h5 : 4 ≤ m.size := by unfold Man.ok at hok; rw [decide_eq_true_eq] at hok; exact hok.2.2.1
  refine ⟨?_, ?_⟩
  · unfold progF; rw [if_neg (by rw [hok]; simp), if_neg (by omega), if_neg (by omega), if_neg (by rw [hs]; simp)]
  · rw [Int.tmod_eq_emod_of_nonneg (by omega)] at h4; omega
theorem decF_ck {bs : List UInt8} (h4 : bs.length % 4 = 0) : decF bs = match ckF (listI bs) with | [] => [] | (c, a) :: r => (c, 4 * a) :: (c, a) :: r := by
  unfold decF; rw [if_neg (by omega)]
  cases ckF (listI bs) with
  | nil => rfl
  | cons q r => obtain ⟨c, a⟩ := q; rfl
theorem ckGo_code (n : Nat) : ∀ (l : List Ins) (at_ : Nat), ∀ q ∈ ckGo n at_ l, q.1 ≠ 0
  | [], _, q, h => by simp [ckGo] at h
  | i :: r, at_, q, h => by
    unfold ckGo at h
    split at h
    · simp at h; subst h; simp
    · split at h
      · simp at h; subst h; simp
      · exact ckGo_code n r (at_ + 1) q h
theorem ckF_code (l : List Ins) : ∀ q ∈ ckF l, q.1 ≠ 0 := by
  intro q h
  unfold ckF at h
  split at h
  · simp at h; subst h; simp
  · split at h
    · split at h
      · simp at h
      · simp at h; subst h; simp
    · exact ckGo_code _ _ _ q h

theorem man_sum {m : Man} (hs : m.sum.length = 32) {i : TI} (ha : i.agg = true) (hz : i.size = 32) : partF i m.v (0 + 3) = some (.agg (bsV m.sum).toArray) := by
  rw [partF_agg ha (by rw [Man.v_len hs, hz]; exact Nat.le_of_ble_eq_true rfl), hz]
  refine congrArg (fun l : List Value => some (Value.agg l.toArray)) ?_
  show (bsV m.sum).take 32 = _
  exact List.take_of_length_le (by rw [bsV_length, hs]; exact Nat.le_refl _)
theorem rchk_spec (m : Man) (hs : m.sum.length = 32) (a : Option Addr) (n cap : Nat) (bs : List UInt8) (hn : n = bs.length) (hl : n ≤ 1000000) : Fun Tryd.prog 22 [.agg m.v.toArray, .slice a n cap] [slR 1 a n cap (bsV bs)] []
    fun v H => ∃ a' cap', v = .tuple #[.int .i64 (codeF (progF m bs)), .slice a' (progF m bs).length cap'] ∧ H = [sl 1 a' (progF m bs).length cap' (intV (posL (progF m bs)))] := by
  subst hn
  refine xenter (p := pg) Tryd.call22 Tryd.func22 fun C => ?_
  haveI hr := RP.slR (RP.of C (X := slR 1 a bs.length cap (bsV bs)) (by simp))
  have hml := Man.v_len hs
  repeat (first | refine xst ?_ | refine xar ?_ | refine xop ?_ | refine xlen ?_ | refine xld rfl ?_ | refine xsto rfl ?_ | refine xno ?_ | refine xt ?_ | refine xf ?_)
  refine xnew fun b => ?_
  refine xrep 0 m.v rfl rfl ?_
  repeat (first | refine xst ?_ | refine xar ?_ | refine xop ?_ | refine xlen ?_ | refine xld rfl ?_ | refine xsto rfl ?_ | refine xno ?_ | refine xt ?_ | refine xf ?_)
  refine xld rfl ?_ (hv := partF_all rfl hml)
  refine xcall (may_spec m) ?_
  rintro v H ⟨rfl, rfl⟩
  refine G.app ?_
  repeat (first | refine xst ?_ | refine xar ?_ | refine xop ?_ | refine xlen ?_ | refine xld rfl ?_ | refine xsto rfl ?_ | refine xno ?_ | refine xt ?_ | refine xf ?_)
  refine xb (fun h1 => ?_) (fun h1 => ?_)
  · have h1 : m.ok = false := by simpa using h1
    have e : progF m bs = [(1, 0)] := by unfold progF; rw [if_pos h1]
    repeat (first | refine xst ?_ | refine xar ?_ | refine xop ?_ | refine xlen ?_ | refine xld rfl ?_ | refine xsto rfl ?_ | refine xno ?_ | refine xt ?_ | refine xf ?_)
    refine xbsl fun b2 => ?_
    refine xslc 0 1 1 (intV [0]) rfl rfl rfl ?_
    repeat (first | refine xst ?_ | refine xar ?_ | refine xop ?_ | refine xlen ?_ | refine xld rfl ?_ | refine xsto rfl ?_ | refine xno ?_ | refine xt ?_ | refine xf ?_)
    refine xretp [0] ?_
    rw [e]
    exact ⟨_, _, rfl, rfl⟩
  · have h1 : m.ok = true := by simpa using h1
    repeat (first | refine xst ?_ | refine xar ?_ | refine xop ?_ | refine xlen ?_ | refine xld rfl ?_ | refine xsto rfl ?_ | refine xno ?_ | refine xt ?_ | refine xf ?_)
    refine xd (q := (bs.length : Int) < m.size) (fun h2 => ?_) (fun h2 => ?_)
    · have e : progF m bs = [(2, (bs.length : Int))] := by unfold progF; rw [if_neg (by rw [h1]; simp), if_pos h2]
      repeat (first | refine xst ?_ | refine xar ?_ | refine xop ?_ | refine xlen ?_ | refine xld rfl ?_ | refine xsto rfl ?_ | refine xno ?_ | refine xt ?_ | refine xf ?_)
      refine xbsl fun b2 => ?_
      refine xslc 0 1 1 (intV [(bs.length : Int)]) rfl rfl rfl ?_
      repeat (first | refine xst ?_ | refine xar ?_ | refine xop ?_ | refine xlen ?_ | refine xld rfl ?_ | refine xsto rfl ?_ | refine xno ?_ | refine xt ?_ | refine xf ?_)
      refine xretp [0] ?_
      rw [e]
      exact ⟨_, _, rfl, rfl⟩
    · repeat (first | refine xst ?_ | refine xar ?_ | refine xop ?_ | refine xlen ?_ | refine xld rfl ?_ | refine xsto rfl ?_ | refine xno ?_ | refine xt ?_ | refine xf ?_)
      refine xd (q := m.size < (bs.length : Int)) (fun h3 => ?_) (fun h3 => ?_)
      · have e : progF m bs = [(7, m.size)] := by unfold progF; rw [if_neg (by rw [h1]; simp), if_neg h2, if_pos h3]
        repeat (first | refine xst ?_ | refine xar ?_ | refine xop ?_ | refine xlen ?_ | refine xld rfl ?_ | refine xsto rfl ?_ | refine xno ?_ | refine xt ?_ | refine xf ?_)
        refine xdraw ?_
        refine xdop 0 ?_
        refine xdld 1 rfl rfl ?_
        refine xdop 3 ?_
        refine xdact 2 ?_
        refine xbsl fun b2 => ?_
        refine xst ?_
        refine xdop 4 ?_
        refine xdend ?_
        refine xslc 0 1 1 (intV [m.size]) rfl rfl rfl ?_
        repeat (first | refine xst ?_ | refine xar ?_ | refine xop ?_ | refine xlen ?_ | refine xld rfl ?_ | refine xsto rfl ?_ | refine xno ?_ | refine xt ?_ | refine xf ?_)
        refine xretp [0] ?_
        rw [e]
        exact ⟨_, _, rfl, rfl⟩
      · repeat (first | refine xst ?_ | refine xar ?_ | refine xop ?_ | refine xlen ?_ | refine xld rfl ?_ | refine xsto rfl ?_ | refine xno ?_ | refine xt ?_ | refine xf ?_)
        refine xdraw ?_
        refine xdop 0 ?_
        refine xdop 2 ?_
        refine xdld 3 rfl rfl ?_ (hv := man_sum hs rfl rfl)
        refine xdact 1 ?_
        refine xcall (rsum_spec a bs.length cap bs rfl (by omega)) ?_
        rintro v H ⟨rfl, rfl⟩
        refine G.app ?_
        have hsl : (bsV (shaF bs)).length = 32 := by rw [bsV_length, shaF_len]
        refine xst ?_
        refine xdeq 4 rfl rfl eq_sum hsl (by rw [bsV_length, hs]; rfl) (SameK.bsV (by rw [shaF_len, hs])) ?_
        refine xE 32 (.bool (decide (shaF bs ≠ m.sum))) rfl (congrArg Value.bool (by rw [eqIV_bsV (by rw [shaF_len, hs])]; by_cases h : shaF bs = m.sum <;> simp [h])) ?_
        refine xdend ?_
        repeat (first | refine xst ?_ | refine xar ?_ | refine xop ?_ | refine xlen ?_ | refine xld rfl ?_ | refine xsto rfl ?_ | refine xno ?_ | refine xt ?_ | refine xf ?_)
        refine xd (q := shaF bs ≠ m.sum) (fun h4 => ?_) (fun h4 => ?_)
        · have e : progF m bs = [(8, 0)] := by unfold progF; rw [if_neg (by rw [h1]; simp), if_neg h2, if_neg h3, if_pos h4]
          repeat (first | refine xst ?_ | refine xar ?_ | refine xop ?_ | refine xlen ?_ | refine xld rfl ?_ | refine xsto rfl ?_ | refine xno ?_ | refine xt ?_ | refine xf ?_)
          refine xbsl fun b2 => ?_
          refine xslc 0 1 1 (intV [0]) rfl rfl rfl ?_
          repeat (first | refine xst ?_ | refine xar ?_ | refine xop ?_ | refine xlen ?_ | refine xld rfl ?_ | refine xsto rfl ?_ | refine xno ?_ | refine xt ?_ | refine xf ?_)
          refine xretp [0] ?_
          rw [e]
          exact ⟨_, _, rfl, rfl⟩
        · obtain ⟨e, hm4⟩ := progF_ok (bs := bs) h1 (by omega) (Classical.not_not.1 h4)
          rw [decF_ck hm4] at e
          repeat (first | refine xst ?_ | refine xar ?_ | refine xop ?_ | refine xlen ?_ | refine xld rfl ?_ | refine xsto rfl ?_ | refine xno ?_ | refine xt ?_ | refine xf ?_)
          refine xcall (rlist_spec a bs.length cap bs rfl hl hm4) ?_
          rintro v H ⟨a6, c6, rfl, rfl⟩
          refine G.app ?_
          refine xcall (rcheck_spec a6 (listI bs).length c6 (listI bs) rfl) ?_
          rintro v H ⟨rfl, rfl⟩
          refine G.app ?_
          rcases ckF_one (listI bs) with hck | ⟨c, x, hck, hx0, hx1⟩
          · rw [hck] at e
            have e : progF m bs = [] := e
            have hp : ckP (listI bs) = (0, 0) := by unfold ckP; rw [hck]
            rw [hp]
            repeat (first | refine xst ?_ | refine xar ?_ | refine xop ?_ | refine xlen ?_ | refine xld rfl ?_ | refine xsto rfl ?_ | refine xno ?_ | refine xt ?_ | refine xf ?_)
            refine G.sln 1 ?_
            refine xretp [0] ?_
            rw [e]
            exact ⟨_, _, rfl, rfl⟩
          · rw [hck] at e
            have e : progF m bs = [(c, (m.ver.toNat : Int)), (c, 4 * x), (c, x)] := e
            have hp : ckP (listI bs) = (c, x) := by unfold ckP; rw [hck]
            have hc : c ≠ 0 := ckF_code (listI bs) (c, x) (by rw [hck]; simp)
            have hll : (listI bs).length = bs.length / 4 := listI_len hm4
            rw [hp]
            repeat (first | refine xst ?_ | refine xar ?_ | refine xop ?_ | refine xlen ?_ | refine xld rfl ?_ | refine xsto rfl ?_ | refine xno ?_ | refine xt ?_ | refine xf ?_)
            refine xy (q := c ≠ 0) hc ?_
            repeat (first | refine xst ?_ | refine xar ?_ | refine xop ?_ | refine xlen ?_ | refine xld rfl ?_ | refine xsto rfl ?_ | refine xno ?_ | refine xt ?_ | refine xf ?_)
            refine xdraw ?_
            refine xdop 0 ?_
            refine xdop 1 ?_
            refine xdld 2 rfl rfl ?_
            (first | refine xdar 3 ?_ | refine xdop 3 ?_)
            refine xE 45 (.int .i64 (m.ver.toNat : Int)) rfl (congrArg (Value.int .i64) (wrap_nat (by have := m.ver.toNat_lt; omega))) ?_
            refine xdop 4 ?_
            (first | refine xdar 5 ?_ | refine xdop 5 ?_)
            refine xdop 6 ?_
            refine xdop 8 ?_
            refine xdact 7 ?_
            refine xbsl fun b2 => ?_
            refine xst ?_
            refine xdop 9 ?_
            refine xdend ?_
            refine xslc 0 1 3 (intV [(m.ver.toNat : Int), 4 * x, x]) rfl rfl rfl ?_
            repeat (first | refine xst ?_ | refine xar ?_ | refine xop ?_ | refine xlen ?_ | refine xld rfl ?_ | refine xsto rfl ?_ | refine xno ?_ | refine xt ?_ | refine xf ?_)
            refine xretp [0] ?_
            rw [e]
            exact ⟨_, _, rfl, rfl⟩

/-- told: an error whose code and path are these. -/
theorem told_spec (l : List (Int × Int)) (e : Value) (n : Int) (a : Option Addr) (k cap : Nat) (hk : k = l.length) (hl : k ≤ 1000000) (hc : codeF l = n) (hz : l ≠ [] → n ≠ 0) :
    Fun Tryd.prog 23 [e, .int .i64 n, .slice a k cap] [gErr, chain l e, slR 1 a k cap (intV (posL l))] [] fun v H => v = .bool true ∧ H = [] := by
  subst hk
  refine xenter (p := pg) Tryd.call23 Tryd.func23 fun C => ?_
  haveI : RP C gErr := RP.of C (by simp)
  haveI hch := RP.of C (X := chain l e) (by simp)
  have hr := RP.slR (RP.of C (X := slR 1 a l.length cap (intV (posL l))) (by simp))
  repeat (first | refine xst ?_ | refine xar ?_ | refine xop ?_ | refine xlen ?_ | refine xld rfl ?_ | refine xsto rfl ?_ | refine xno ?_ | refine xt ?_ | refine xf ?_)
  refine xcall (path_spec l e hl) ?_
  rintro v H ⟨a7, c7, rfl, rfl⟩
  refine G.app ?_
  refine xreH 0 (sl 1 a7 l.length c7 (intV (posL l))) rfl (by rw [posV_posL]) ?_
  repeat (first | refine xst ?_ | refine xar ?_ | refine xop ?_ | refine xlen ?_ | refine xld rfl ?_ | refine xsto rfl ?_ | refine xno ?_ | refine xt ?_ | refine xf ?_)
  refine xcall (code_spec l e) ?_
  rintro v H ⟨rfl, rfl⟩
  refine G.app ?_
  rw [hc]
  repeat (refine xnot 14 ?_; first | refine xst ?_ | refine xar ?_ | refine xop ?_ | refine xlen ?_ | refine xld rfl ?_ | refine xsto rfl ?_ | refine xno ?_ | refine xt ?_ | refine xf ?_)
  refine xE 14 (.bool false) rfl (by simp) ?_
  repeat (refine xnot 20 ?_; first | refine xst ?_ | refine xar ?_ | refine xop ?_ | refine xlen ?_ | refine xld rfl ?_ | refine xsto rfl ?_ | refine xno ?_ | refine xt ?_ | refine xf ?_)
  refine xE 20 (.bool false) rfl (by simp) ?_
  cases l with
  | nil =>
    have he := chain_rd0 hch
    subst he
    have h0 : n = 0 := hc.symm
    subst h0
    repeat (first | refine xst ?_ | refine xar ?_ | refine xop ?_ | refine xlen ?_ | refine xld rfl ?_ | refine xsto rfl ?_ | refine xno ?_ | refine xt ?_ | refine xf ?_)
    refine G.loop (σ := Nat) (fun i => [(2, .slice a ([] : List (Int × Int)).length cap), (7, .slice a7 ([] : List (Int × Int)).length c7), (8, .int .i64 (i : Int))]) (fun _ => [sl 1 a7 ([] : List (Int × Int)).length c7 (intV (posL ([] : List (Int × Int))))]) (fun i => i ≤ ([] : List (Int × Int)).length) (fun i => ([] : List (Int × Int)).length - i) 0 (Nat.zero_le _) ⟨rfl, rfl, rfl, trivial⟩ (Ent.refl _) ?_
    intro i hi
    have hi : i ≤ ([] : List (Int × Int)).length := hi
    show G C _ [(2, .slice a ([] : List (Int × Int)).length cap), (7, .slice a7 ([] : List (Int × Int)).length c7), (8, .int .i64 (i : Int))] [sl 1 a7 ([] : List (Int × Int)).length c7 (intV (posL ([] : List (Int × Int))))]
    repeat (first | refine xst ?_ | refine xar ?_ | refine xop ?_ | refine xlen ?_ | refine xld rfl ?_ | refine xsto rfl ?_ | refine xno ?_ | refine xt ?_ | refine xf ?_)
    exact xret [] ⟨rfl, rfl⟩
  | cons q r =>
    obtain ⟨c, x⟩ := q
    obtain ⟨fb, u, rfl, _⟩ := chain_rd hch
    have h0 : n ≠ 0 := hz (by simp)
    repeat (refine xnot 26 ?_; first | refine xst ?_ | refine xar ?_ | refine xop ?_ | refine xlen ?_ | refine xld rfl ?_ | refine xsto rfl ?_ | refine xno ?_ | refine xt ?_ | refine xf ?_)
    refine xE 26 (.bool false) rfl (by simp [h0]) ?_
    repeat (first | refine xst ?_ | refine xar ?_ | refine xop ?_ | refine xlen ?_ | refine xld rfl ?_ | refine xsto rfl ?_ | refine xno ?_ | refine xt ?_ | refine xf ?_)
    refine G.loop (σ := Nat) (fun i => [(2, .slice a ((c, x) :: r).length cap), (7, .slice a7 ((c, x) :: r).length c7), (8, .int .i64 (i : Int))]) (fun _ => [sl 1 a7 ((c, x) :: r).length c7 (intV (posL ((c, x) :: r)))]) (fun i => i ≤ ((c, x) :: r).length) (fun i => ((c, x) :: r).length - i) 0 (Nat.zero_le _) ⟨rfl, rfl, rfl, trivial⟩ (Ent.refl _) ?_
    intro i hi
    have hi : i ≤ ((c, x) :: r).length := hi
    show G C _ [(2, .slice a ((c, x) :: r).length cap), (7, .slice a7 ((c, x) :: r).length c7), (8, .int .i64 (i : Int))] [sl 1 a7 ((c, x) :: r).length c7 (intV (posL ((c, x) :: r)))]
    repeat (first | refine xst ?_ | refine xar ?_ | refine xop ?_ | refine xlen ?_ | refine xld rfl ?_ | refine xsto rfl ?_ | refine xno ?_ | refine xt ?_ | refine xf ?_)
    refine xd (q := (i : Int) < (((c, x) :: r).length : Int)) (fun h1 => ?_) (fun h1 => ?_)
    · have h1 : i < ((c, x) :: r).length := by omega
      have h2 : i < (posL ((c, x) :: r)).length := by simpa [posL] using h1
      refine xslf 0 rfl fun _ q2 q3 => ?_
      obtain ⟨b7, o7, rfl⟩ := q3 (by omega)
      obtain ⟨b0, o0, rfl, hsb⟩ := hr.some (by omega)
      repeat (first | refine xst ?_ | refine xar ?_ | refine xop ?_ | refine xlen ?_ | refine xld rfl ?_ | refine xsto rfl ?_ | refine xno ?_ | refine xt ?_ | refine xf ?_)
      refine xdraw ?_
      refine xdop 0 ?_
      refine xdop 1 ?_
      refine xdix 2 ?_ (hk := by first | omega | exact Nat.le_of_ble_eq_true rfl)
      refine xdldl 3 rfl rfl i (intV_get h2) (by omega) ?_ (hj := offAt_one _ _)
      refine xdop 4 ?_
      refine xdop 5 ?_
      refine xdix 6 ?_ (hk := by first | omega | exact Nat.le_of_ble_eq_true rfl)
      refine xdldl 7 rfl rfl i (intV_get h2) (by omega) ?_ (hj := offAt_one _ _)
      refine xdop 8 ?_
      refine xE 43 (.bool false) rfl (by simp) ?_
      refine xdend ?_
      repeat (first | refine xst ?_ | refine xar ?_ | refine xop ?_ | refine xlen ?_ | refine xld rfl ?_ | refine xsto rfl ?_ | refine xno ?_ | refine xt ?_ | refine xf ?_)
      exact G.fin (i + 1) ⟨by show i + 1 ≤ ((c, x) :: r).length; omega, by show ((c, x) :: r).length - (i + 1) < ((c, x) :: r).length - i; omega⟩ ⟨rfl, rfl, rfl, trivial⟩ (Ent.refl _)
    · repeat (first | refine xst ?_ | refine xar ?_ | refine xop ?_ | refine xlen ?_ | refine xld rfl ?_ | refine xsto rfl ?_ | refine xno ?_ | refine xt ?_ | refine xf ?_)
      exact xret [] ⟨rfl, rfl⟩
end Go.Proofs.YthlaacnjgdmakaaDoor

/- The document's answer, layer 19: a piece; and whether the same is staged. -/
namespace Go.Proofs.YthlaacnjgdmakaaDoor
open Go.W

theorem rchunk_spec (m : Man) (hs : m.sum.length = 32) (a : Option Addr) (n cap : Nat) (got : List UInt8) (hn : n = got.length) (hl : n ≤ 1000000) (at_ : Int) (a2 : Option Addr) (n2 cap2 : Nat) (bs : List UInt8) (hn2 : n2 = bs.length) (hl2 : n2 ≤ 1000000) :
    Fun Tryd.prog 20 [.agg (stgV m (.slice a n cap)).toArray, .int .i64 at_, .slice a2 n2 cap2] [slR 1 a n cap (bsV got), slR 1 a2 n2 cap2 (bsV bs)] []
    fun v H => ∃ s, v = .tuple #[.agg ⟨s⟩, .int .i64 (chunkC m n at_ n2)] ∧
      ((chunkC m n at_ n2 = 0 ∧ ∃ a' cap', s = stgV m (.slice a' (n + n2) cap') ∧ H = [sl 1 a' (n + n2) cap' (bsV (got ++ bs))]) ∨ (chunkC m n at_ n2 ≠ 0 ∧ s = stg0 ∧ H = [])) := by
  subst hn
  subst hn2
  refine xenter (p := pg) Tryd.call20 Tryd.func20 fun C => ?_
  have hr1 := RP.slR (RP.of C (X := slR 1 a got.length cap (bsV got)) (by simp))
  have hr2 := RP.slR (RP.of C (X := slR 1 a2 bs.length cap2 (bsV bs)) (by simp))
  have hsl := stgV_len hs (.slice a got.length cap)
  have hbad : ∀ c : Int, c = chunkC m got.length at_ bs.length → c ≠ 0 → ∃ s, Value.tuple #[.agg ⟨stg0⟩, .int .i64 c] = .tuple #[.agg ⟨s⟩, .int .i64 (chunkC m got.length at_ bs.length)] ∧
      ((chunkC m got.length at_ bs.length = 0 ∧ ∃ a' cap', s = stgV m (.slice a' (got.length + bs.length) cap') ∧ ([] : List HProp) = [sl 1 a' (got.length + bs.length) cap' (bsV (got ++ bs))]) ∨ (chunkC m got.length at_ bs.length ≠ 0 ∧ s = stg0 ∧ ([] : List HProp) = [])) := by
    rintro c rfl hc
    exact ⟨stg0, rfl, .inr ⟨hc, rfl, rfl⟩⟩
  repeat (first | refine xst ?_ | refine xar ?_ | refine xop ?_ | refine xlen ?_ | refine xld rfl ?_ | refine xsto rfl ?_ | refine xno ?_ | refine xt ?_ | refine xf ?_)
  refine xnew fun b => ?_
  refine xnew fun b2 => ?_
  refine xrep 1 (stgV m (.slice a got.length cap)) rfl rfl ?_
  refine xrep 1 stg0 rfl rfl ?_
  repeat (first | refine xst ?_ | refine xar ?_ | refine xop ?_ | refine xlen ?_ | refine xld rfl ?_ | refine xsto rfl ?_ | refine xno ?_ | refine xt ?_ | refine xf ?_)
  refine xld rfl ?_ (hv := stgV_man hs _ rfl rfl)
  refine xcall (may_spec m) ?_
  rintro v H ⟨rfl, rfl⟩
  refine G.app ?_
  repeat (first | refine xst ?_ | refine xar ?_ | refine xop ?_ | refine xlen ?_ | refine xld rfl ?_ | refine xsto rfl ?_ | refine xno ?_ | refine xt ?_ | refine xf ?_)
  refine xbb 12 (fun h1 => ?_) (fun h1 => ?_)
  · have h1 : m.ok = false := by simpa using h1
    repeat (first | refine xst ?_ | refine xar ?_ | refine xop ?_ | refine xlen ?_ | refine xld rfl ?_ | refine xsto rfl ?_ | refine xno ?_ | refine xt ?_ | refine xf ?_)
    refine xrep 0 stg0 rfl rfl ?_
    refine xretm [] rfl (.c (.t .nil) rfl rfl (partF_all rfl rfl)) ?_
    exact hbad 1 (by unfold chunkC; rw [if_pos (.inl h1)]) (by omega)
  · have h1 : m.ok = true := by simpa using h1
    have hsz2 : 4 ≤ m.size ∧ m.size ≤ 512 := by
      unfold Man.ok at h1; rw [decide_eq_true_eq] at h1; omega
    have hnk : ¬ (m.ok = false) := by rw [h1]; simp
    repeat (first | refine xst ?_ | refine xar ?_ | refine xop ?_ | refine xlen ?_ | refine xld rfl ?_ | refine xsto rfl ?_ | refine xno ?_ | refine xt ?_ | refine xf ?_)
    refine xld rfl ?_ (hv := stgV_got hs _ rfl)
    repeat (first | refine xst ?_ | refine xar ?_ | refine xop ?_ | refine xlen ?_ | refine xld rfl ?_ | refine xsto rfl ?_ | refine xno ?_ | refine xt ?_ | refine xf ?_)
    refine xd (q := m.size < (got.length : Int)) (fun h2 => ?_) (fun h2 => ?_)
    · repeat (first | refine xst ?_ | refine xar ?_ | refine xop ?_ | refine xlen ?_ | refine xld rfl ?_ | refine xsto rfl ?_ | refine xno ?_ | refine xt ?_ | refine xf ?_)
      refine xrep 0 stg0 rfl rfl ?_
      refine xretm [] rfl (.c (.t .nil) rfl rfl (partF_all rfl rfl)) ?_
      exact hbad 1 (by unfold chunkC; rw [if_pos (.inr h2)]) (by omega)
    · have e1 : ¬ (m.ok = false ∨ (got.length : Int) > m.size) := by rintro (h | h); exact hnk h; exact h2 h
      repeat (first | refine xst ?_ | refine xar ?_ | refine xop ?_ | refine xlen ?_ | refine xld rfl ?_ | refine xsto rfl ?_ | refine xno ?_ | refine xt ?_ | refine xf ?_)
      refine xld rfl ?_ (hv := stgV_got hs _ rfl)
      repeat (first | refine xst ?_ | refine xar ?_ | refine xop ?_ | refine xlen ?_ | refine xld rfl ?_ | refine xsto rfl ?_ | refine xno ?_ | refine xt ?_ | refine xf ?_)
      refine xd (q := at_ ≠ (got.length : Int)) (fun h3 => ?_) (fun h3 => ?_)
      · repeat (first | refine xst ?_ | refine xar ?_ | refine xop ?_ | refine xlen ?_ | refine xld rfl ?_ | refine xsto rfl ?_ | refine xno ?_ | refine xt ?_ | refine xf ?_)
        refine xrep 0 stg0 rfl rfl ?_
        refine xretm [] rfl (.c (.t .nil) rfl rfl (partF_all rfl rfl)) ?_
        exact hbad 4 (by unfold chunkC; rw [if_neg e1, if_pos h3]) (by omega)
      · repeat (first | refine xst ?_ | refine xar ?_ | refine xop ?_ | refine xlen ?_ | refine xld rfl ?_ | refine xsto rfl ?_ | refine xno ?_ | refine xt ?_ | refine xf ?_)
        refine xld rfl ?_ (hv := stgV_got hs _ rfl)
        repeat (first | refine xst ?_ | refine xar ?_ | refine xop ?_ | refine xlen ?_ | refine xld rfl ?_ | refine xsto rfl ?_ | refine xno ?_ | refine xt ?_ | refine xf ?_)
        refine xd (q := m.size < (got.length : Int) + (bs.length : Int)) (fun h4 => ?_) (fun h4 => ?_)
        · repeat (first | refine xst ?_ | refine xar ?_ | refine xop ?_ | refine xlen ?_ | refine xld rfl ?_ | refine xsto rfl ?_ | refine xno ?_ | refine xt ?_ | refine xf ?_)
          refine xrep 0 stg0 rfl rfl ?_
          refine xretm [] rfl (.c (.t .nil) rfl rfl (partF_all rfl rfl)) ?_
          exact hbad 7 (by unfold chunkC; rw [if_neg e1, if_neg h3, if_pos (by omega)]) (by omega)
        · have e0 : chunkC m got.length at_ bs.length = 0 := by unfold chunkC; rw [if_neg e1, if_neg h3, if_neg (by omega)]
          repeat (first | refine xst ?_ | refine xar ?_ | refine xop ?_ | refine xlen ?_ | refine xld rfl ?_ | refine xsto rfl ?_ | refine xno ?_ | refine xt ?_ | refine xf ?_)
          refine xdraw ?_
          refine xdop 0 ?_
          refine xdld 1 rfl rfl ?_ (hv := stgV_man hs _ rfl rfl)
          refine xdop 3 ?_
          refine xdld 4 rfl rfl ?_ (hv := stgV_got hs _ rfl)
          refine xdop 6 ?_
          refine xdact 2 ?_
          refine xbsl fun b3 => ?_
          refine xslc 0 1 0 [] rfl rfl rfl ?_
          refine xst ?_
          refine xdact 5 ?_
          refine xapp [] rfl (SrcOk.rs hr1 (bsV_one _)) (by omega) fun a3 c3 => ?_
          refine xreH 0 (sl 1 a3 got.length c3 (bsV got)) rfl (by rw [Nat.zero_add]; rfl) ?_
          refine xE 44 (.slice a3 got.length c3) rfl (by rw [Nat.zero_add]) ?_
          refine xst ?_
          refine xdact 7 ?_
          refine xapp (bsV got) rfl (SrcOk.rs hr2 (bsV_one _)) (by omega) fun a4 c4 => ?_
          refine xst ?_
          refine xdbuild 8 (stgV m (.slice a4 (got.length + bs.length) c4)) rfl rfl (fillF_cons rfl (Man.v_len hs) (by exact Nat.le_of_ble_eq_true rfl) (fillF_cons rfl rfl (by rw [show cellsL (.agg m.v.toArray) = m.v from rfl, List.length_append, List.length_append, Man.v_len hs]; exact Nat.le_of_ble_eq_true rfl) (congrArg some (stg_fill hs (.slice none 0 0) (.slice a4 (got.length + bs.length) c4))))) ?_
          refine xdact 9 ?_
          have hsl4 := stgV_len hs (.slice a4 (got.length + bs.length) c4)
          refine xsta (cs := stgV m (.slice a4 (got.length + bs.length) c4)) rfl hsl4 (stgV_one m rfl) (stgV m (.slice a4 (got.length + bs.length) c4)) (put_all (by rw [hsl4]; rfl)) (by rw [hsl4]; exact Nat.le_of_ble_eq_true rfl) ?_
          refine xst ?_
          refine xdop 10 ?_
          refine xdend ?_
          repeat (first | refine xst ?_ | refine xar ?_ | refine xop ?_ | refine xlen ?_ | refine xld rfl ?_ | refine xsto rfl ?_ | refine xno ?_ | refine xt ?_ | refine xf ?_)
          refine xretm [0] rfl (.c (.t .nil) rfl rfl (partF_all rfl hsl4)) ?_
          rw [e0]
          exact ⟨_, rfl, .inl ⟨rfl, a4, c4, rfl, by rw [bsV_append]⟩⟩

theorem same_spec (m : Man) (hs : m.sum.length = 32) (a a2 : Option Addr) (n cap n2 cap2 : Nat) (bs : List UInt8) : Fun Tryd.prog 18 [.agg (stgV m (.slice a n cap)).toArray, .agg (stgV m (.slice a2 n2 cap2)).toArray]
    [slR 1 a n cap (bsV bs), slR 1 a2 n2 cap2 (bsV bs)] [] fun v H => v = .bool true ∧ H = [] := by
  refine xenter (p := pg) Tryd.call18 Tryd.func18 fun C => ?_
  haveI hr1 := RP.slR (RP.of C (X := slR 1 a n cap (bsV bs)) (by simp))
  haveI hr2 := RP.slR (RP.of C (X := slR 1 a2 n2 cap2 (bsV bs)) (by simp))
  have hml := Man.v_len hs
  repeat (first | refine xst ?_ | refine xar ?_ | refine xop ?_ | refine xlen ?_ | refine xld rfl ?_ | refine xsto rfl ?_ | refine xno ?_ | refine xt ?_ | refine xf ?_)
  refine xnew fun b => ?_
  refine xnew fun b2 => ?_
  refine xrep 1 (stgV m (.slice a n cap)) rfl rfl ?_
  refine xrep 1 (stgV m (.slice a2 n2 cap2)) rfl rfl ?_
  repeat (first | refine xst ?_ | refine xar ?_ | refine xop ?_ | refine xlen ?_ | refine xld rfl ?_ | refine xsto rfl ?_ | refine xno ?_ | refine xt ?_ | refine xf ?_)
  refine xld rfl ?_ (hv := stgV_man hs _ rfl rfl)
  repeat (first | refine xst ?_ | refine xar ?_ | refine xop ?_ | refine xlen ?_ | refine xld rfl ?_ | refine xsto rfl ?_ | refine xno ?_ | refine xt ?_ | refine xf ?_)
  refine xld rfl ?_ (hv := stgV_man hs _ rfl rfl)
  refine xeq rfl eq_man hml hml (sameMan hs hs) ?_
  refine xE 9 (.bool true) rfl (by rw [eqIV_man hs hs]; simp) ?_
  repeat (first | refine xst ?_ | refine xar ?_ | refine xop ?_ | refine xlen ?_ | refine xld rfl ?_ | refine xsto rfl ?_ | refine xno ?_ | refine xt ?_ | refine xf ?_)
  refine xld rfl ?_ (hv := stgV_got hs _ rfl)
  refine xcst bs rfl ?_
  repeat (first | refine xst ?_ | refine xar ?_ | refine xop ?_ | refine xlen ?_ | refine xld rfl ?_ | refine xsto rfl ?_ | refine xno ?_ | refine xt ?_ | refine xf ?_)
  refine xld rfl ?_ (hv := stgV_got hs _ rfl)
  refine xcst bs rfl ?_
  refine xseq true rfl (by simp) ?_
  repeat (first | refine xst ?_ | refine xar ?_ | refine xop ?_ | refine xlen ?_ | refine xld rfl ?_ | refine xsto rfl ?_ | refine xno ?_ | refine xt ?_ | refine xf ?_)
  exact xret [] ⟨rfl, rfl⟩
end Go.Proofs.YthlaacnjgdmakaaDoor

/- nacellelaw19.ImageTakes. -/
namespace Go.Proofs.YthlaacnjgdmakaaDoor
open Go.W

/-! ## A piece -/
structure Pc where
  at_ : Int
  a : Option Addr
  n : Nat
  cap : Nat
  bs : List UInt8
def Pc.v (q : Pc) : List Value := [.int .i64 q.at_, .slice q.a q.n q.cap]
def pcsV (ps : List Pc) : List Value := ps.flatMap Pc.v
def Pc.rd (q : Pc) : HProp := slR 1 q.a q.n q.cap (bsV q.bs)
def Pc.ok (q : Pc) : Prop := q.n = q.bs.length ∧ q.n ≤ q.cap
theorem pcs_at : ∀ {ps : List Pc} {k : Nat} (h : k < ps.length), (pcsV ps)[k * 2]? = some (.int .i64 ps[k].at_) ∧ (pcsV ps)[k * 2 + 1]? = some (.slice ps[k].a ps[k].n ps[k].cap)
  | q :: ps, 0, _ => ⟨rfl, rfl⟩
  | q :: ps, k + 1, h => by
    have := pcs_at (ps := ps) (k := k) (by simpa using h)
    simp only [List.getElem_cons_succ]
    rw [← this.1, ← this.2, Nat.succ_mul]
    exact ⟨rfl, rfl⟩

/-! ## What is staged: the given row, or one of one's own -/
def gotP (o : Bool) (a : Option Addr) (n cap : Nat) (gs : List UInt8) : HProp := match o with | true => sl 1 a n cap (bsV gs) | false => pureP True
theorem RdOk.got {fn : Func} {rd : List HProp} {post : Post} {C : Ctx pg fn rd post} {o : Bool} {a : Option Addr} {n cap : Nat} {gs : List UInt8} (hr : o = false → RS C 1 a n cap (bsV gs)) (H R : List HProp) (h : Rem H (gotP o a n cap gs) R) : RdOk C H (slR 1 a n cap (bsV gs)) := by
  cases o with
  | true =>
    haveI : Rem H (sl 1 a n cap (bsV gs)) R := h
    infer_instance
  | false =>
    haveI := hr rfl
    infer_instance

theorem Fun.wk {P : Program} {f : FuncId} {args : List Value} {rd H : List HProp} {post post' : Post} (h : Fun P f args rd H post) (hp : ∀ v H', post v H' → ∃ H'', post' v H'' ∧ Ent H' H'') : Fun P f args rd H post' :=
  ⟨h.callable, fun w F hr hs hi => (h.calls w F hr hs hi).mono fun _ _ ⟨v, H', F', he, hp', hs', hf⟩ => by
    obtain ⟨H'', h1, h2⟩ := hp v H' hp'
    exact ⟨v, H'', F', he, h1, h2 _ _ hs', hf⟩⟩

def chM (m : Man) (c : Int) : Man := if c = 0 then m else man0
def chG (c : Int) (gs bs : List UInt8) : List UInt8 := if c = 0 then gs ++ bs else []
theorem chM_len {m : Man} (hs : m.sum.length = 32) (c : Int) : (chM m c).sum.length = 32 := by unfold chM; split; exact hs; rfl
def chPost (m2 : Man) (g2 : List UInt8) (c : Int) : Post := fun v H => ∃ a' cap', v = .tuple #[.agg (stgV m2 (.slice a' g2.length cap')).toArray, .int .i64 c] ∧ H = [sl 1 a' g2.length cap' (bsV g2)]
theorem chunkU (m : Man) (hs : m.sum.length = 32) (a : Option Addr) (n cap : Nat) (got : List UInt8) (hn : n = got.length) (hl : n ≤ 1000000) (at_ : Int) (a2 : Option Addr) (n2 cap2 : Nat) (bs : List UInt8) (hn2 : n2 = bs.length) (hl2 : n2 ≤ 1000000) (c : Int) (hc : chunkC m n at_ n2 = c) (m2 : Man) (hm2 : chM m c = m2) (g2 : List UInt8) (hg2 : chG c got bs = g2) :
    Fun Tryd.prog 19 [.agg (stgV m (.slice a n cap)).toArray, .int .i64 at_, .slice a2 n2 cap2] [slR 1 a n cap (bsV got), slR 1 a2 n2 cap2 (bsV bs)] [] (chPost m2 g2 c) := by
  refine Fun.wk (chunk_spec m hs a n cap got hn hl at_ a2 n2 cap2 bs hn2 hl2) ?_
  subst hc hm2 hg2
  rintro v H ⟨s, rfl, h⟩
  rcases h with ⟨h, b, rfl, rfl⟩ | ⟨h, rfl, rfl⟩
  · refine ⟨_, ⟨some ⟨b, 0, none⟩, n + n2, ?_, rfl⟩, ?_⟩
    · rw [h, show chG 0 got bs = got ++ bs from rfl, show chM m 0 = m from rfl, List.length_append, ← hn, ← hn2]
    · rw [h, show chG 0 got bs = got ++ bs from rfl, List.length_append, ← hn, ← hn2]; exact Ent.refl _
  · refine ⟨_, ⟨none, 0, ?_, rfl⟩, ?_⟩
    · unfold chG chM; rw [if_neg h, if_neg h]; rfl
    · unfold chG; rw [if_neg h]; exact sln_ent 1 []
theorem rchunkU (m : Man) (hs : m.sum.length = 32) (a : Option Addr) (n cap : Nat) (got : List UInt8) (hn : n = got.length) (hl : n ≤ 1000000) (at_ : Int) (a2 : Option Addr) (n2 cap2 : Nat) (bs : List UInt8) (hn2 : n2 = bs.length) (hl2 : n2 ≤ 1000000) (c : Int) (hc : chunkC m n at_ n2 = c) (m2 : Man) (hm2 : chM m c = m2) (g2 : List UInt8) (hg2 : chG c got bs = g2) :
    Fun Tryd.prog 20 [.agg (stgV m (.slice a n cap)).toArray, .int .i64 at_, .slice a2 n2 cap2] [slR 1 a n cap (bsV got), slR 1 a2 n2 cap2 (bsV bs)] [] (chPost m2 g2 c) := by
  refine Fun.wk (rchunk_spec m hs a n cap got hn hl at_ a2 n2 cap2 bs hn2 hl2) ?_
  subst hc hm2 hg2
  rintro v H ⟨s, rfl, h⟩
  rcases h with ⟨h, b, c', rfl, rfl⟩ | ⟨h, rfl, rfl⟩
  · refine ⟨_, ⟨b, c', ?_, rfl⟩, ?_⟩
    · rw [h, show chG 0 got bs = got ++ bs from rfl, show chM m 0 = m from rfl, List.length_append, ← hn, ← hn2]
    · rw [h, show chG 0 got bs = got ++ bs from rfl, List.length_append, ← hn, ← hn2]; exact Ent.refl _
  · refine ⟨_, ⟨none, 0, ?_, rfl⟩, ?_⟩
    · unfold chG chM; rw [if_neg h, if_neg h]; rfl
    · unfold chG; rw [if_neg h]; exact sln_ent 1 []
theorem chunkC_len {m : Man} {n : Nat} {at_ : Int} {n2 : Nat} (h : chunkC m n at_ n2 = 0) : n + n2 ≤ 600 := by
  unfold chunkC at h
  split at h
  · omega
  · rename_i h1
    have hok : m.ok = true := by cases ho : m.ok with | true => rfl | false => exact absurd (.inl ho) h1
    unfold Man.ok at hok; rw [decide_eq_true_eq] at hok
    split at h
    · omega
    · split at h <;> omega
end Go.Proofs.YthlaacnjgdmakaaDoor

/- nacellelaw19.ImageChecks. -/
namespace Go.Proofs.YthlaacnjgdmakaaDoor
open Go.W

theorem decF_code (bs : List UInt8) : decF bs ≠ [] → codeF (decF bs) ≠ 0 := by
  intro h
  unfold decF at h ⊢
  split
  · simp [codeF]
  · rename_i h4
    rw [if_neg h4] at h
    cases hc : ckF (listI bs) with
    | nil => rw [hc] at h; exact absurd rfl h
    | cons q r =>
      obtain ⟨c, x⟩ := q
      have := ckF_code (listI bs) (c, x) (by rw [hc]; simp)
      simpa [codeF] using this
theorem progF_code (m : Man) (bs : List UInt8) : progF m bs ≠ [] → codeF (progF m bs) ≠ 0 := by
  intro h
  unfold progF at h ⊢
  split
  · simp [codeF]
  · rename_i h1
    rw [if_neg h1] at h
    split
    · simp [codeF]
    · rename_i h2
      rw [if_neg h2] at h
      split
      · simp [codeF]
      · rename_i h3
        rw [if_neg h3] at h
        split
        · simp [codeF]
        · rename_i h4
          rw [if_neg h4] at h
          have := decF_code bs
          cases hd : decF bs with
          | nil => rw [hd] at h; exact absurd rfl h
          | cons q r => obtain ⟨c, x⟩ := q; rw [hd] at this; exact this (by simp)
theorem progF_len (m : Man) (bs : List UInt8) : (progF m bs).length ≤ 1000000 := by
  unfold progF
  split
  · simp
  · split
    · simp
    · split
      · simp
      · split
        · simp
        · unfold decF
          split
          · simp [inF]
          · rcases ckF_one (listI bs) with h | ⟨c, x, h, _⟩ <;> rw [h] <;> simp [inF]

theorem checks_spec (m : Man) (hs : m.sum.length = 32) (a : Option Addr) (n cap : Nat) (bs : List UInt8) (hn : n = bs.length) (hcap : n ≤ cap) : Fun Tryd.prog 5 [.agg m.v.toArray, .slice a n cap] [gErr, kV, iniV, slR 1 a n cap (bsV bs)] []
    fun v H => v = .bool true ∧ H = [] := by
  subst hn
  refine xenter (p := pg) Tryd.call5 Tryd.func5 fun C => ?_
  haveI : RP C gErr := RP.of C (by simp)
  haveI : RP C kV := RP.of C (by simp)
  haveI : RP C iniV := RP.of C (by simp)
  have hr0 := RP.slR (RP.of C (X := slR 1 a bs.length cap (bsV bs)) (by simp))
  obtain ⟨xs, hxs⟩ : ∃ xs, xs = bs.take (min bs.length 600) := ⟨_, rfl⟩
  have hxl : min bs.length 600 = xs.length := by rw [hxs]; simp
  haveI hr : RS C 1 a xs.length cap (bsV xs) := by
    have := RS.headB hr0 (m := min bs.length 600) (Nat.min_le_left _ _)
    rwa [← hxs, hxl] at this
  have hx6 : xs.length ≤ 600 := by rw [← hxl]; exact Nat.min_le_right _ _
  have hml := Man.v_len hs
  repeat (first | refine xst ?_ | refine xar ?_ | refine xop ?_ | refine xlen ?_ | refine xld rfl ?_ | refine xsto rfl ?_ | refine xno ?_ | refine xt ?_ | refine xf ?_)
  refine xnew fun b => ?_
  refine xrep 0 m.v rfl rfl ?_
  repeat (first | refine xst ?_ | refine xar ?_ | refine xop ?_ | refine xlen ?_ | refine xld rfl ?_ | refine xsto rfl ?_ | refine xno ?_ | refine xt ?_ | refine xf ?_)
  refine xcall (few_spec a bs.length cap hcap 600) ?_
  rintro v H ⟨rfl, rfl⟩
  rw [hxl]
  refine G.app ?_
  repeat (first | refine xst ?_ | refine xar ?_ | refine xop ?_ | refine xlen ?_ | refine xld rfl ?_ | refine xsto rfl ?_ | refine xno ?_ | refine xt ?_ | refine xf ?_)
  refine xbsl fun b2 => ?_
  refine xslc 0 1 0 [] rfl rfl rfl ?_
  repeat (first | refine xst ?_ | refine xar ?_ | refine xop ?_ | refine xlen ?_ | refine xld rfl ?_ | refine xsto rfl ?_ | refine xno ?_ | refine xt ?_ | refine xf ?_)
  refine xapp [] rfl (SrcOk.rs hr (bsV_one _)) (by omega) fun a3 c3 => ?_
  refine xreH 0 (sl 1 a3 xs.length c3 (bsV xs)) rfl (by rw [Nat.zero_add]; rfl) ?_
  refine xE 12 (.slice a3 xs.length c3) rfl (by rw [Nat.zero_add]) ?_
  repeat (first | refine xst ?_ | refine xar ?_ | refine xop ?_ | refine xlen ?_ | refine xld rfl ?_ | refine xsto rfl ?_ | refine xno ?_ | refine xt ?_ | refine xf ?_)
  refine xld rfl ?_ (hv := partF_all rfl hml)
  repeat (first | refine xst ?_ | refine xar ?_ | refine xop ?_ | refine xlen ?_ | refine xld rfl ?_ | refine xsto rfl ?_ | refine xno ?_ | refine xt ?_ | refine xf ?_)
  refine xcall (rchk_spec m hs a xs.length cap xs rfl (by omega)) ?_
  rintro v H ⟨a4, c4, rfl, rfl⟩
  refine G.app ?_
  repeat (first | refine xst ?_ | refine xar ?_ | refine xop ?_ | refine xlen ?_ | refine xld rfl ?_ | refine xsto rfl ?_ | refine xno ?_ | refine xt ?_ | refine xf ?_)
  refine xld rfl ?_ (hv := partF_all rfl hml)
  repeat (first | refine xst ?_ | refine xar ?_ | refine xop ?_ | refine xlen ?_ | refine xld rfl ?_ | refine xsto rfl ?_ | refine xno ?_ | refine xt ?_ | refine xf ?_)
  refine xcall (icheck_spec m hs a xs.length cap xs rfl (by omega)) ?_
  rintro e H ⟨_, rfl⟩
  refine G.app ?_
  repeat (first | refine xst ?_ | refine xar ?_ | refine xop ?_ | refine xlen ?_ | refine xld rfl ?_ | refine xsto rfl ?_ | refine xno ?_ | refine xt ?_ | refine xf ?_)
  refine xcall (told_spec (progF m xs) e (codeF (progF m xs)) a4 (progF m xs).length c4 rfl (progF_len m xs) rfl (progF_code m xs)) ?_
  rintro v H ⟨rfl, rfl⟩
  refine G.app ?_
  repeat (first | refine xst ?_ | refine xar ?_ | refine xop ?_ | refine xlen ?_ | refine xld rfl ?_ | refine xsto rfl ?_ | refine xno ?_ | refine xt ?_ | refine xf ?_)
  refine xcst xs rfl ?_
  repeat (first | refine xst ?_ | refine xar ?_ | refine xop ?_ | refine xlen ?_ | refine xld rfl ?_ | refine xsto rfl ?_ | refine xno ?_ | refine xt ?_ | refine xf ?_)
  refine xcst xs rfl ?_
  refine xseq true rfl (by simp) ?_
  repeat (first | refine xst ?_ | refine xar ?_ | refine xop ?_ | refine xlen ?_ | refine xld rfl ?_ | refine xsto rfl ?_ | refine xno ?_ | refine xt ?_ | refine xf ?_)
  refine xcall awake_spec ?_
  rintro v H ⟨rfl, rfl⟩
  refine G.app ?_
  repeat (first | refine xst ?_ | refine xar ?_ | refine xop ?_ | refine xlen ?_ | refine xld rfl ?_ | refine xsto rfl ?_ | refine xno ?_ | refine xt ?_ | refine xf ?_)
  exact xret [] ⟨rfl, rfl⟩
end Go.Proofs.YthlaacnjgdmakaaDoor
