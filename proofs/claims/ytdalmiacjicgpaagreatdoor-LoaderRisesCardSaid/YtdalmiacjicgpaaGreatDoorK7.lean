/- Part of the proof: LKf, LCo, LCp, LCq, LSa, LSb, LSc -/
import Derived.Test.YtdalmiacjicgpaaGreatDoorK6
import Derived.Test.YtdalmiacjicgpaaGreatDoorK2
import Derived.Test.YtdalmiacjicgpaaGreatDoorK5
/- bytes.Equal, clones; audit: entries as sectors. -/
namespace Go.Proofs.YtdalmiacjicgpaaGreatDoor
open Go.W

theorem equal_spec (a : Option Addr) (n cap : Nat) (xs : List UInt8) (a' : Option Addr) (n' cap' : Nat) (ys : List UInt8) : Fun Tryz.prog 125 [.slice a n cap, .slice a' n' cap'] [slR 1 a n cap (bsV xs), slR 1 a' n' cap' (bsV ys)] [] fun v H => v = .bool (decide (xs = ys)) ∧ H = [] := by
  refine xenter (p := pg) Tryz.call125 Tryz.func125 fun C => ?_
  haveI := RP.slR (RP.of C (X := slR 1 a n cap (bsV xs)) (by simp))
  haveI := RP.slR (RP.of C (X := slR 1 a' n' cap' (bsV ys)) (by simp))
  repeat (first | refine xst ?_ | refine xar ?_ | refine xop ?_ | refine xlen ?_ | refine xld rfl ?_ | refine xsto rfl ?_ | refine xno ?_ | refine xt ?_ | refine xf ?_ | refine xnu ?_)
  refine xcst xs rfl ?_
  repeat (first | refine xst ?_ | refine xar ?_ | refine xop ?_ | refine xlen ?_ | refine xld rfl ?_ | refine xsto rfl ?_ | refine xno ?_ | refine xt ?_ | refine xf ?_ | refine xnu ?_)
  refine xcst ys rfl ?_
  refine xseq (decide (xs = ys)) rfl ?_ ?_
  · rw [Bool.false_xor]
    refine decide_eq_decide.2 ⟨fun h => ?_, fun h => by rw [h]⟩
    exact bsS_inj.1 (congrArg Value.string h)
  repeat (first | refine xst ?_ | refine xar ?_ | refine xop ?_ | refine xlen ?_ | refine xld rfl ?_ | refine xsto rfl ?_ | refine xno ?_ | refine xt ?_ | refine xf ?_ | refine xnu ?_)
  exact xret [] ⟨rfl, rfl⟩
theorem bclone_spec (a : Option Addr) (n cap : Nat) (l : List UInt8) (hn : n = l.length) (hl : n ≤ 1000000) : Fun Tryz.prog 46 [.slice a n cap] [slR 1 a n cap (bsV l)] [] fun v H => ∃ a' cap', v = .slice a' l.length cap' ∧ H = [sl 1 a' l.length cap' (bsV l)] := by
  subst hn
  refine xenter (p := pg) Tryz.call46 Tryz.func46 fun C => ?_
  haveI hr := RP.slR (RP.of C (X := slR 1 a l.length cap (bsV l)) (by simp))
  cases a with
  | none =>
    have hl0 : l = [] := by
      cases l with
      | nil => rfl
      | cons x r => obtain ⟨_, _, h, _⟩ := hr.some (Nat.zero_lt_succ _); cases h
    subst hl0
    repeat (first | refine xst ?_ | refine xar ?_ | refine xop ?_ | refine xlen ?_ | refine xld rfl ?_ | refine xsto rfl ?_ | refine xno ?_ | refine xt ?_ | refine xf ?_ | refine xnu ?_)
    refine xsn true rfl rfl ?_
    repeat (first | refine xst ?_ | refine xar ?_ | refine xop ?_ | refine xlen ?_ | refine xld rfl ?_ | refine xsto rfl ?_ | refine xno ?_ | refine xt ?_ | refine xf ?_ | refine xnu ?_)
    refine G.sln 1 ?_
    refine xretp [0] ?_
    exact ⟨none, 0, rfl, rfl⟩
  | some ad =>
    repeat (first | refine xst ?_ | refine xar ?_ | refine xop ?_ | refine xlen ?_ | refine xld rfl ?_ | refine xsto rfl ?_ | refine xno ?_ | refine xt ?_ | refine xf ?_ | refine xnu ?_)
    refine xsn false rfl rfl ?_
    repeat (first | refine xst ?_ | refine xar ?_ | refine xop ?_ | refine xlen ?_ | refine xld rfl ?_ | refine xsto rfl ?_ | refine xno ?_ | refine xt ?_ | refine xf ?_ | refine xnu ?_)
    refine xbsl fun b => ?_
    refine xslc 0 1 0 [] rfl rfl rfl ?_
    repeat (first | refine xst ?_ | refine xar ?_ | refine xop ?_ | refine xlen ?_ | refine xld rfl ?_ | refine xsto rfl ?_ | refine xno ?_ | refine xt ?_ | refine xf ?_ | refine xnu ?_)
    refine xapp [] rfl (SrcOk.rs hr (bsV_one _)) (by omega) fun a1 c1 => ?_
    repeat (first | refine xst ?_ | refine xar ?_ | refine xop ?_ | refine xlen ?_ | refine xld rfl ?_ | refine xsto rfl ?_ | refine xno ?_ | refine xt ?_ | refine xf ?_ | refine xnu ?_)
    refine xretp [0] ?_
    exact ⟨a1, c1, by simp [resV], by simp⟩

/-! ## Entries -/
structure Ntr where
  kind : Int
  part : Int
  ver : UInt32
  code : Int
deriving DecidableEq
def Ntr.v (x : Ntr) : List Value := [.int .i64 x.kind, .int .i64 x.part, wV x.ver, .int .i64 x.code]
def Ntr.zero : Ntr := ⟨0, 0, 0, 0⟩
def ntrV (l : List Ntr) : List Value := l.flatMap Ntr.v
theorem Ntr.v_len (x : Ntr) : x.v.length = 4 := rfl
theorem ntrV_len (l : List Ntr) : (ntrV l).length = l.length * 4 := flat_length Ntr.v_len l
theorem Ntr.v_one (x : Ntr) : ∀ v ∈ x.v, v.oneCell' = true := by
  intro v hv; simp [Ntr.v] at hv; rcases hv with rfl | rfl | rfl | rfl <;> rfl
theorem ntrV_one (l : List Ntr) : ∀ v ∈ ntrV l, v.oneCell' = true := by
  intro v hv; obtain ⟨x, _, h⟩ := List.mem_flatMap.1 hv; exact x.v_one v h
theorem ntrV_append (l m : List Ntr) : ntrV (l ++ m) = ntrV l ++ ntrV m := by simp [ntrV]
def Ntr.valid (x : Ntr) : Bool := decide (1 ≤ x.kind ∧ x.kind ≤ 4 ∧ 0 ≤ x.part ∧ x.part < 8 ∧ 0 ≤ x.code ∧ x.code ≤ 255)
theorem avalid' (k p : Int) (vr : UInt32) (cd : Int) : Fun Tryz.prog 91 [.agg #[.int .i64 k, .int .i64 p, wV vr, .int .i64 cd]] [] [] fun v H => v = .bool (decide (1 ≤ k ∧ k ≤ 4 ∧ 0 ≤ p ∧ p < 8 ∧ 0 ≤ cd ∧ cd ≤ 255)) ∧ H = [] := by
  refine xenter (p := pg) Tryz.call91 Tryz.func91 fun C => ?_
  refine xst ?_
  refine xst ?_
  refine xnew fun b => ?_
  refine xrep 0 [.int .i64 k, .int .i64 p, wV vr, .int .i64 cd] rfl rfl ?_
  repeat (refine xnot 5 ?_; first | refine xst ?_ | refine xar ?_ | refine xop ?_ | refine xlen ?_ | refine xld rfl ?_ | refine xsto rfl ?_ | refine xno ?_ | refine xt ?_ | refine xf ?_ | refine xnu ?_)
  by_cases hc5 : ¬ (1 ≤ k)
  · refine xE 5 (.bool false) rfl (congrArg Value.bool (decide_eq_false hc5)) ?_
    repeat (first | refine xst ?_ | refine xar ?_ | refine xop ?_ | refine xlen ?_ | refine xld rfl ?_ | refine xsto rfl ?_ | refine xno ?_ | refine xt ?_ | refine xf ?_ | refine xnu ?_)
    refine xret [] ⟨?_, rfl⟩
    exact congrArg Value.bool (decide_eq_false (by omega)).symm
  have hc5 := Classical.not_not.1 hc5
  refine xE 5 (.bool true) rfl (congrArg Value.bool (decide_eq_true hc5)) ?_
  repeat (refine xnot 9 ?_; first | refine xst ?_ | refine xar ?_ | refine xop ?_ | refine xlen ?_ | refine xld rfl ?_ | refine xsto rfl ?_ | refine xno ?_ | refine xt ?_ | refine xf ?_ | refine xnu ?_)
  by_cases hc9 : ¬ (k ≤ 4)
  · refine xE 9 (.bool false) rfl (congrArg Value.bool (decide_eq_false hc9)) ?_
    repeat (first | refine xst ?_ | refine xar ?_ | refine xop ?_ | refine xlen ?_ | refine xld rfl ?_ | refine xsto rfl ?_ | refine xno ?_ | refine xt ?_ | refine xf ?_ | refine xnu ?_)
    refine xret [] ⟨?_, rfl⟩
    exact congrArg Value.bool (decide_eq_false (by omega)).symm
  have hc9 := Classical.not_not.1 hc9
  refine xE 9 (.bool true) rfl (congrArg Value.bool (decide_eq_true hc9)) ?_
  repeat (refine xnot 14 ?_; first | refine xst ?_ | refine xar ?_ | refine xop ?_ | refine xlen ?_ | refine xld rfl ?_ | refine xsto rfl ?_ | refine xno ?_ | refine xt ?_ | refine xf ?_ | refine xnu ?_)
  by_cases hc14 : ¬ (0 ≤ p)
  · refine xE 14 (.bool false) rfl (congrArg Value.bool (decide_eq_false hc14)) ?_
    repeat (first | refine xst ?_ | refine xar ?_ | refine xop ?_ | refine xlen ?_ | refine xld rfl ?_ | refine xsto rfl ?_ | refine xno ?_ | refine xt ?_ | refine xf ?_ | refine xnu ?_)
    refine xret [] ⟨?_, rfl⟩
    exact congrArg Value.bool (decide_eq_false (by omega)).symm
  have hc14 := Classical.not_not.1 hc14
  refine xE 14 (.bool true) rfl (congrArg Value.bool (decide_eq_true hc14)) ?_
  repeat (refine xnot 19 ?_; first | refine xst ?_ | refine xar ?_ | refine xop ?_ | refine xlen ?_ | refine xld rfl ?_ | refine xsto rfl ?_ | refine xno ?_ | refine xt ?_ | refine xf ?_ | refine xnu ?_)
  by_cases hc19 : ¬ (p < 8)
  · refine xE 19 (.bool false) rfl (congrArg Value.bool (decide_eq_false hc19)) ?_
    repeat (first | refine xst ?_ | refine xar ?_ | refine xop ?_ | refine xlen ?_ | refine xld rfl ?_ | refine xsto rfl ?_ | refine xno ?_ | refine xt ?_ | refine xf ?_ | refine xnu ?_)
    refine xret [] ⟨?_, rfl⟩
    exact congrArg Value.bool (decide_eq_false (by omega)).symm
  have hc19 := Classical.not_not.1 hc19
  refine xE 19 (.bool true) rfl (congrArg Value.bool (decide_eq_true hc19)) ?_
  repeat (refine xnot 24 ?_; first | refine xst ?_ | refine xar ?_ | refine xop ?_ | refine xlen ?_ | refine xld rfl ?_ | refine xsto rfl ?_ | refine xno ?_ | refine xt ?_ | refine xf ?_ | refine xnu ?_)
  by_cases hc24 : ¬ (0 ≤ cd)
  · refine xE 24 (.bool false) rfl (congrArg Value.bool (decide_eq_false hc24)) ?_
    repeat (first | refine xst ?_ | refine xar ?_ | refine xop ?_ | refine xlen ?_ | refine xld rfl ?_ | refine xsto rfl ?_ | refine xno ?_ | refine xt ?_ | refine xf ?_ | refine xnu ?_)
    refine xret [] ⟨?_, rfl⟩
    exact congrArg Value.bool (decide_eq_false (by omega)).symm
  have hc24 := Classical.not_not.1 hc24
  refine xE 24 (.bool true) rfl (congrArg Value.bool (decide_eq_true hc24)) ?_
  repeat (refine xnot 29 ?_; first | refine xst ?_ | refine xar ?_ | refine xop ?_ | refine xlen ?_ | refine xld rfl ?_ | refine xsto rfl ?_ | refine xno ?_ | refine xt ?_ | refine xf ?_ | refine xnu ?_)
  by_cases hc29 : ¬ (cd ≤ 255)
  · refine xE 29 (.bool false) rfl (congrArg Value.bool (decide_eq_false hc29)) ?_
    repeat (first | refine xst ?_ | refine xar ?_ | refine xop ?_ | refine xlen ?_ | refine xld rfl ?_ | refine xsto rfl ?_ | refine xno ?_ | refine xt ?_ | refine xf ?_ | refine xnu ?_)
    refine xret [] ⟨?_, rfl⟩
    exact congrArg Value.bool (decide_eq_false (by omega)).symm
  have hc29 := Classical.not_not.1 hc29
  refine xE 29 (.bool true) rfl (congrArg Value.bool (decide_eq_true hc29)) ?_
  repeat (first | refine xst ?_ | refine xar ?_ | refine xop ?_ | refine xlen ?_ | refine xld rfl ?_ | refine xsto rfl ?_ | refine xno ?_ | refine xt ?_ | refine xf ?_ | refine xnu ?_)
  refine xret [] ⟨?_, rfl⟩
  exact congrArg Value.bool (decide_eq_true (by omega)).symm
theorem avalid_spec (x : Ntr) : Fun Tryz.prog 91 [.agg x.v.toArray] [] [] fun v H => v = .bool x.valid ∧ H = [] := avalid' x.kind x.part x.ver x.code
def pad60 (b : List UInt8) : List UInt8 := b ++ List.replicate (60 - b.length) 0
theorem pad60_len {b : List UInt8} (h : b.length ≤ 60) : (pad60 b).length = 60 := by unfold pad60; rw [List.length_append, List.length_replicate]; omega
def Ntr.raw (n : Nat) (x : Ntr) : List UInt8 := 65 :: (putB n 4 ++ (putB x.kind.toNat 1 ++ (putB x.part.toNat 1 ++ (putB x.ver.toNat 4 ++ putB x.code.toNat 1))))
theorem Ntr.raw_len (n : Nat) (x : Ntr) : (x.raw n).length = 12 := by simp [Ntr.raw, putB_length]
def Ntr.sec (n : Nat) (x : Ntr) : List UInt8 := sealF (pad60 (x.raw n))
theorem Ntr.sec_len (n : Nat) (x : Ntr) : (x.sec n).length = 64 := by unfold Ntr.sec; rw [sealF_len, pad60_len (by rw [Ntr.raw_len]; decide)]
/-- What is read off a sector's content. -/
def ntrOf (c : List UInt8) : Ntr := ⟨(numB ((c.drop 5).take 1) : Int), (numB ((c.drop 6).take 1) : Int), UInt32.ofNat (numB ((c.drop 7).take 4)), (numB ((c.drop 11).take 1) : Int)⟩
theorem ntrOf_raw (n : Nat) (x : Ntr) (h : x.valid = true) : ntrOf (pad60 (x.raw n)) = x := by
  unfold Ntr.valid at h
  rw [decide_eq_true_eq] at h
  obtain ⟨k, p, vr, cd⟩ := x
  simp only at h
  have e1 : ((pad60 (Ntr.raw n ⟨k, p, vr, cd⟩)).drop 5).take 1 = putB k.toNat 1 := rfl
  have e2 : ((pad60 (Ntr.raw n ⟨k, p, vr, cd⟩)).drop 6).take 1 = putB p.toNat 1 := rfl
  have e3 : ((pad60 (Ntr.raw n ⟨k, p, vr, cd⟩)).drop 7).take 4 = putB vr.toNat 4 := rfl
  have e4 : ((pad60 (Ntr.raw n ⟨k, p, vr, cd⟩)).drop 11).take 1 = putB cd.toNat 1 := rfl
  have hv := vr.toNat_lt
  unfold ntrOf
  rw [e1, e2, e3, e4, numB_putB, numB_putB, numB_putB, numB_putB]
  congr 1
  · omega
  · omega
  · rw [Nat.mod_eq_of_lt (by omega)]; exact w_of vr
  · omega
theorem Ntr.sec_inj {n : Nat} {x y : Ntr} (hx : x.valid = true) (hy : y.valid = true) (h : x.sec n = y.sec n) : x = y := by
  have h1 := open_seal (pad60 (x.raw n))
  have h2 := open_seal (pad60 (y.raw n))
  unfold Ntr.sec at h
  rw [h, h2] at h1
  rw [← ntrOf_raw n x hx, ← ntrOf_raw n y hy, Option.some.inj h1]

theorem sput_spec (q : Nat) (a : Option Addr) (n cap : Nat) (bs : List UInt8) (hn : n = bs.length) (hl : n ≤ 1000000) (v : Nat) (hv : v < 18446744073709551616) (size : Nat) (hs : 1 ≤ size ∧ size ≤ 8) :
    Fun Tryz.prog 136 [.int .u64 (v : Int), .int .i64 (size : Int), .pointer (some ⟨q, 0, none⟩)] [] [pts q [.slice a n cap], sl 1 a n cap (bsV bs)]
    fun _ H => ∃ a' cap', H = [pts q [.slice a' (bs ++ putB v size).length cap'], sl 1 a' (bs ++ putB v size).length cap' (bsV (bs ++ putB v size))] := by
  subst hn
  refine xenter (p := pg) Tryz.call136 Tryz.func136 fun C => ?_
  have e : putO v (size : Int) = putB v size := by unfold putO; rw [if_pos (by omega)]; simp
  have hl' : (putB v size).length = size := putB_length _ _
  repeat (first | refine xst ?_ | refine xar ?_ | refine xop ?_ | refine xlen ?_ | refine xld rfl ?_ | refine xsto rfl ?_ | refine xno ?_ | refine xt ?_ | refine xf ?_ | refine xnu ?_)
  refine xdraw ?_
  refine xdld 0 rfl rfl ?_
  refine xdop 1 ?_
  refine xdop 2 ?_
  refine xdact 3 ?_
  refine xcall (put_spec v (size : Int) hv) ?_
  rintro v H ⟨a1, c1, rfl, rfl⟩
  refine G.app ?_
  refine xE 8 (.slice a1 (putB v size).length c1) rfl (by rw [e]) ?_
  refine xreH 0 (sl 1 a1 (putB v size).length c1 (bsV (putB v size))) rfl (by rw [e]) ?_
  refine xst ?_
  refine xdact 4 ?_
  refine xapp (bsV bs) rfl (SrcOk.sl (by rw [bsV_length, Nat.mul_one]) (bsV_one _)) (by omega) fun a2 c2 => ?_
  refine xst ?_
  refine xdact 5 ?_
  refine xsto rfl ?_
  refine xst ?_
  refine xdend ?_
  refine xdonep [2, 0] ?_
  refine ⟨a2, c2, ?_⟩
  rw [List.length_append, bsV_append]
theorem asec_spec (n : Nat) (hn : n < 4294967296) (x : Ntr) (hx : x.valid = true) : Fun Tryz.prog 92 [.int .i64 (n : Int), .agg x.v.toArray] [gNib] [] fun v H => ∃ a cap, v = .slice a (x.sec n).length cap ∧ H = [sl 1 a (x.sec n).length cap (bsV (x.sec n))] := by
  unfold Ntr.valid at hx
  rw [decide_eq_true_eq] at hx
  obtain ⟨k, p, vr, cd⟩ := x
  simp only at hx
  obtain ⟨k, rfl⟩ : ∃ k' : Nat, k = k' := ⟨k.toNat, by omega⟩
  obtain ⟨p, rfl⟩ : ∃ k' : Nat, p = k' := ⟨p.toNat, by omega⟩
  obtain ⟨cd, rfl⟩ : ∃ k' : Nat, cd = k' := ⟨cd.toNat, by omega⟩
  have hv := vr.toNat_lt
  refine xenter (p := pg) Tryz.call92 Tryz.func92 fun C => ?_
  haveI : RP C gNib := RP.of C (by simp)
  refine xst ?_
  refine xst ?_
  refine xnew fun b => ?_
  refine xrep 0 (Ntr.v ⟨k, p, vr, cd⟩) rfl rfl ?_
  repeat (first | refine xst ?_ | refine xar ?_ | refine xop ?_ | refine xlen ?_ | refine xld rfl ?_ | refine xsto rfl ?_ | refine xno ?_ | refine xt ?_ | refine xf ?_ | refine xnu ?_)
  refine xbsl fun b8 => ?_
  refine xslc 0 1 1 (bsV [65]) rfl rfl rfl ?_
  refine xnew fun q => ?_
  repeat (refine xnot 12 ?_; first | refine xst ?_ | refine xar ?_ | refine xop ?_ | refine xlen ?_ | refine xld rfl ?_ | refine xsto rfl ?_ | refine xno ?_ | refine xt ?_ | refine xf ?_ | refine xnu ?_)
  refine xE 12 (.int .u64 (n : Int)) rfl (congrArg (Value.int .u64) (u64_wrap (by omega))) ?_
  refine xcall (sput_spec q (some ⟨b8, 0, none⟩) 1 1 [65] rfl (by decide) n (by omega) 4 (by decide)) ?_
  rintro v H ⟨a1, c1, rfl⟩
  refine G.app ?_
  repeat (refine xnot 17 ?_; first | refine xst ?_ | refine xar ?_ | refine xop ?_ | refine xlen ?_ | refine xld rfl ?_ | refine xsto rfl ?_ | refine xno ?_ | refine xt ?_ | refine xf ?_ | refine xnu ?_)
  refine xE 17 (.int .u64 (k : Int)) rfl (congrArg (Value.int .u64) (u64_wrap (by omega))) ?_
  have hl : ∀ (l : List UInt8) (v s : Nat), (l ++ putB v s).length = l.length + s := fun l v s => by rw [List.length_append, putB_length]
  refine xcall (sput_spec q a1 _ c1 ([65] ++ putB n 4) rfl (by rw [hl]; decide) k (by omega) 1 (by decide)) ?_
  rintro v H ⟨a2, c2, rfl⟩
  refine G.app ?_
  repeat (refine xnot 22 ?_; first | refine xst ?_ | refine xar ?_ | refine xop ?_ | refine xlen ?_ | refine xld rfl ?_ | refine xsto rfl ?_ | refine xno ?_ | refine xt ?_ | refine xf ?_ | refine xnu ?_)
  refine xE 22 (.int .u64 (p : Int)) rfl (congrArg (Value.int .u64) (u64_wrap (by omega))) ?_
  refine xcall (sput_spec q a2 _ c2 ([65] ++ putB n 4 ++ putB k 1) rfl (by rw [hl, hl]; decide) p (by omega) 1 (by decide)) ?_
  rintro v H ⟨a3, c3, rfl⟩
  refine G.app ?_
  repeat (refine xnot 27 ?_; first | refine xst ?_ | refine xar ?_ | refine xop ?_ | refine xlen ?_ | refine xld rfl ?_ | refine xsto rfl ?_ | refine xno ?_ | refine xt ?_ | refine xf ?_ | refine xnu ?_)
  refine xE 27 (.int .u64 (vr.toNat : Int)) rfl (congrArg (Value.int .u64) (u64_wrap (by show vr.toNat < _; omega))) ?_
  refine xcall (sput_spec q a3 _ c3 ([65] ++ putB n 4 ++ putB k 1 ++ putB p 1) rfl (by rw [hl, hl, hl]; decide) vr.toNat (by omega) 4 (by decide)) ?_
  rintro v H ⟨a4, c4, rfl⟩
  refine G.app ?_
  repeat (refine xnot 32 ?_; first | refine xst ?_ | refine xar ?_ | refine xop ?_ | refine xlen ?_ | refine xld rfl ?_ | refine xsto rfl ?_ | refine xno ?_ | refine xt ?_ | refine xf ?_ | refine xnu ?_)
  refine xE 32 (.int .u64 (cd : Int)) rfl (congrArg (Value.int .u64) (u64_wrap (by omega))) ?_
  refine xcall (sput_spec q a4 _ c4 ([65] ++ putB n 4 ++ putB k 1 ++ putB p 1 ++ putB vr.toNat 4) rfl (by rw [hl, hl, hl, hl]; decide) cd (by omega) 1 (by decide)) ?_
  rintro v H ⟨a5, c5, rfl⟩
  refine G.app ?_
  obtain ⟨raw, hraw⟩ : ∃ r, r = Ntr.raw n ⟨k, p, vr, cd⟩ := ⟨_, rfl⟩
  have hrl : raw.length = 12 := by rw [hraw, Ntr.raw_len]
  have e : [65] ++ putB n 4 ++ putB k 1 ++ putB p 1 ++ putB vr.toNat 4 ++ putB cd 1 = raw := by rw [hraw]; simp [Ntr.raw]
  refine xrep 0 [.slice a5 12 c5] rfl (by rw [e, hrl]) ?_
  refine xreH 1 (sl 1 a5 12 c5 (bsV raw)) rfl (by rw [e, hrl]) ?_
  repeat (first | refine xst ?_ | refine xar ?_ | refine xop ?_ | refine xlen ?_ | refine xld rfl ?_ | refine xsto rfl ?_ | refine xno ?_ | refine xt ?_ | refine xf ?_ | refine xnu ?_)
  refine xmake 60 60 rfl rfl rfl (Nat.le_refl _) (by decide) (by decide) fun b7 => ?_
  repeat (first | refine xst ?_ | refine xar ?_ | refine xop ?_ | refine xlen ?_ | refine xld rfl ?_ | refine xsto rfl ?_ | refine xno ?_ | refine xt ?_ | refine xf ?_ | refine xnu ?_)
  refine xcopys rfl (SrcOk.sl (ys := bsV raw) (by rw [bsV_length, hrl]) (bsV_one _)) 12 rfl (bsV (pad60 raw)) ?_ (by simp [zeros]) ?_
  · rw [List.take_of_length_le (by rw [bsV_length, hrl]; decide)]
    unfold pad60
    rw [bsV_append, hrl]; rfl
  have hpl : (pad60 raw).length = 60 := pad60_len (by omega)
  repeat (first | refine xst ?_ | refine xar ?_ | refine xop ?_ | refine xlen ?_ | refine xld rfl ?_ | refine xsto rfl ?_ | refine xno ?_ | refine xt ?_ | refine xf ?_ | refine xnu ?_)
  refine xcall (seal_spec (some ⟨b7, 0, none⟩) 60 60 (pad60 raw) hpl.symm (by decide)) ?_
  rintro v H ⟨a6, c6, rfl, rfl⟩
  refine G.app ?_
  repeat (first | refine xst ?_ | refine xar ?_ | refine xop ?_ | refine xlen ?_ | refine xld rfl ?_ | refine xsto rfl ?_ | refine xno ?_ | refine xt ?_ | refine xf ?_ | refine xnu ?_)
  refine xretp [0] ?_
  refine ⟨a6, c6, ?_, ?_⟩
  · unfold Ntr.sec; rw [hraw]; rfl
  · unfold Ntr.sec; rw [hraw]
end Go.Proofs.YtdalmiacjicgpaaGreatDoor

/- code: instructions. -/
namespace Go.Proofs.YtdalmiacjicgpaaGreatDoor
open Go.W

structure Ins where
  op : UInt8
  a : UInt8
  b : UInt8
  c : UInt8
deriving DecidableEq
def insV (i : Ins) : List Value := [bV i.op, bV i.a, bV i.b, bV i.c]
def insA (i : Ins) : Value := .agg #[bV i.op, bV i.a, bV i.b, bV i.c]
def inssV (l : List Ins) : List Value := l.flatMap insV
theorem insV_len (i : Ins) : (insV i).length = 4 := rfl
theorem inssV_len (l : List Ins) : (inssV l).length = l.length * 4 := flat_length insV_len l

def numI (op b c : Int) : Int := if op = 1 ∧ b + 256 * c ≥ 32768 then b + 256 * c - 65536 else b + 256 * c
def Ins.num (i : Ins) : Int := numI i.op.toNat i.b.toNat i.c.toNat
def wfI (op a b c : Int) : Bool :=
  if op = 0 then decide (a = 0 ∧ b = 0 ∧ c = 0) else if op = 15 then decide (a = 0) else if op = 17 then decide (a < 16 ∧ b = 0 ∧ c = 0)
  else if op = 2 then decide (c = 0 ∧ b < 8 ∧ a < 8) else if 3 ≤ op ∧ op ≤ 12 then decide (c < 8 ∧ b < 8 ∧ a < 8)
  else if op = 13 ∨ op = 14 then decide (b < 8 ∧ a < 8) else if op = 1 ∨ op = 16 then decide (a < 8) else false
def Ins.wf (i : Ins) : Bool := wfI i.op.toNat i.a.toNat i.b.toNat i.c.toNat
def Ins.leads (i : Ins) : Bool := decide ((i.op.toNat : Int) = 15 ∨ (i.op.toNat : Int) = 16)

theorem numI_range {op b c : Int} (hb : 0 ≤ b ∧ b ≤ 255) (hc : 0 ≤ c ∧ c ≤ 255) : -32768 ≤ numI op b c ∧ numI op b c ≤ 65535 := by
  unfold numI; split <;> omega

theorem numberI_spec (op x b c : Int) (hb : 0 ≤ b ∧ b ≤ 255) (hc : 0 ≤ c ∧ c ≤ 255) :
    Fun Tryz.prog 97 [.agg #[.int .u8 op, .int .u8 x, .int .u8 b, .int .u8 c]] [] [] fun v H => v = .int .i64 (numI op b c) ∧ H = [] := by
  refine xenter (p := pg) Tryz.call97 Tryz.func97 fun C => ?_
  repeat (first | refine xst ?_ | refine xar ?_ | refine xop ?_ | refine xlen ?_ | refine xld rfl ?_ | refine xsto rfl ?_ | refine xno ?_ | refine xt ?_ | refine xf ?_)
  refine xnew fun b1 => ?_
  repeat (first | refine xst ?_ | refine xar ?_ | refine xop ?_ | refine xlen ?_ | refine xld rfl ?_ | refine xsto rfl ?_ | refine xno ?_ | refine xt ?_ | refine xf ?_)
  refine xbc 15 (fun h1 => ?_) (fun h1 => ?_)
  · repeat (first | refine xst ?_ | refine xar ?_ | refine xop ?_ | refine xlen ?_ | refine xld rfl ?_ | refine xsto rfl ?_ | refine xno ?_ | refine xt ?_ | refine xf ?_)
    refine xd (fun h2 => ?_) (fun h2 => ?_)
    · repeat (first | refine xst ?_ | refine xar ?_ | refine xop ?_ | refine xlen ?_ | refine xld rfl ?_ | refine xsto rfl ?_ | refine xno ?_ | refine xt ?_ | refine xf ?_)
      refine xret [] ⟨?_, rfl⟩
      simp [resV, numI]; omega
    · repeat (first | refine xst ?_ | refine xar ?_ | refine xop ?_ | refine xlen ?_ | refine xld rfl ?_ | refine xsto rfl ?_ | refine xno ?_ | refine xt ?_ | refine xf ?_)
      refine xret [] ⟨?_, rfl⟩
      simp [resV, numI]; omega
  · repeat (first | refine xst ?_ | refine xar ?_ | refine xop ?_ | refine xlen ?_ | refine xld rfl ?_ | refine xsto rfl ?_ | refine xno ?_ | refine xt ?_ | refine xf ?_)
    refine xret [] ⟨?_, rfl⟩
    simp [resV, numI, h1]
theorem numberC_spec (i : Ins) : Fun Tryz.prog 97 [insA i] [] [] fun v H => v = .int .i64 i.num ∧ H = [] := by
  have := i.b.toNat_lt
  have := i.c.toNat_lt
  exact numberI_spec _ _ _ _ (by omega) (by omega)

theorem leads_spec (i : Ins) : Fun Tryz.prog 96 [insA i] [] [] fun v H => v = .bool i.leads ∧ H = [] := by
  refine xenter (p := pg) Tryz.call96 Tryz.func96 fun C => ?_
  repeat (first | refine xst ?_ | refine xar ?_ | refine xop ?_ | refine xlen ?_ | refine xld rfl ?_ | refine xsto rfl ?_ | refine xno ?_ | refine xt ?_ | refine xf ?_)
  refine xnew fun b1 => ?_
  repeat (first | refine xst ?_ | refine xar ?_ | refine xop ?_ | refine xlen ?_ | refine xld rfl ?_ | refine xsto rfl ?_ | refine xno ?_ | refine xt ?_ | refine xf ?_)
  refine xbc 6 (fun h1 => ?_) (fun h1 => ?_)
  · repeat (first | refine xst ?_ | refine xar ?_ | refine xop ?_ | refine xlen ?_ | refine xld rfl ?_ | refine xsto rfl ?_ | refine xno ?_ | refine xt ?_ | refine xf ?_)
    refine xret [] ⟨?_, rfl⟩
    simp only [resV]; congr 1; unfold Ins.leads; rw [Bool.eq_iff_iff]; simp only [decide_eq_true_eq]; simp only [h1, true_or]
  · repeat (first | refine xst ?_ | refine xar ?_ | refine xop ?_ | refine xlen ?_ | refine xld rfl ?_ | refine xsto rfl ?_ | refine xno ?_ | refine xt ?_ | refine xf ?_)
    refine xret [] ⟨?_, rfl⟩
    simp only [resV]; congr 1; unfold Ins.leads; rw [Bool.eq_iff_iff]; simp only [decide_eq_true_eq]; simp only [h1, false_or]

set_option maxHeartbeats 4000000 in
theorem wellFormed_spec (i : Ins) : Fun Tryz.prog 95 [insA i] [] [] fun v H => v = .bool i.wf ∧ H = [] := by
  refine xenter (p := pg) Tryz.call95 Tryz.func95 fun C => ?_
  repeat (first | refine xst ?_ | refine xar ?_ | refine xop ?_ | refine xlen ?_ | refine xld rfl ?_ | refine xsto rfl ?_ | refine xno ?_ | refine xt ?_ | refine xf ?_)
  refine xnew fun b1 => ?_
  repeat' (first | refine xst ?_ | refine xar ?_ | refine xop ?_ | refine xld rfl ?_ | refine xsto rfl ?_ | refine xno ?_ | refine xt ?_ | refine xf ?_ | refine xbc 5 (fun _ => ?_) (fun _ => ?_) | refine xbc 7 (fun _ => ?_) (fun _ => ?_) | refine xbc 9 (fun _ => ?_) (fun _ => ?_) | refine xbc 11 (fun _ => ?_) (fun _ => ?_) | refine xbc 13 (fun _ => ?_) (fun _ => ?_) | refine xbc 24 (fun _ => ?_) (fun _ => ?_) | refine xbc 27 (fun _ => ?_) (fun _ => ?_) | refine xbc 61 (fun _ => ?_) (fun _ => ?_) | refine xbc 64 (fun _ => ?_) (fun _ => ?_) | refine xbc 67 (fun _ => ?_) (fun _ => ?_) | refine xbc 33 (fun _ => ?_) (fun _ => ?_) | refine xbc 38 (fun _ => ?_) (fun _ => ?_) | refine xbc 49 (fun _ => ?_) (fun _ => ?_) | refine xbc 54 (fun _ => ?_) (fun _ => ?_))
  all_goals refine xret [] ⟨?_, rfl⟩
  all_goals (simp only [resV]; congr 1; unfold Ins.wf wfI; rw [Bool.eq_iff_iff]; (repeat' split) <;> simp only [decide_eq_true_eq, Bool.false_eq_true, false_iff] <;> omega)
end Go.Proofs.YtdalmiacjicgpaaGreatDoor

/- code: programs. -/
namespace Go.Proofs.YtdalmiacjicgpaaGreatDoor
open Go.W

def ckGo (n : Nat) : Nat → List Ins → List (Int × Int)
  | _, [] => []
  | at_, i :: r => if i.wf = false then [(3, at_)] else if i.leads = true ∧ i.num ≥ n then [(4, at_)] else ckGo n (at_ + 1) r
def ckLast (l : List Ins) : Bool := match l.getLast? with
  | some i => decide ((i.op.toNat : Int) = 0 ∨ (i.op.toNat : Int) = 15)
  | none => true
def ckF (l : List Ins) : List (Int × Int) :=
  if l.length = 0 ∨ l.length > 128 then [(1, 0)]
  else match ckGo l.length 0 l with
    | [] => if ckLast l then [] else [(2, (l.length : Int) - 1)]
    | e => e

theorem check_spec (a : Option Addr) (n cap : Nat) (l : List Ins) (hn : n = l.length) (hlen : n ≤ 9223372036854775807) : Fun Tryz.prog 54 [.slice a n cap] [slR 4 a n cap (inssV l)] [] fun v H => H = [chain (ckF l) v] := by
  subst hn
  refine xenter (p := pg) Tryz.call54 Tryz.func54 fun C => ?_
  have hr := RP.slR (RP.of C (X := slR 4 a l.length cap (inssV l)) (by simp))
  repeat (first | refine xst ?_ | refine xar ?_ | refine xop ?_ | refine xlen ?_ | refine xld rfl ?_ | refine xsto rfl ?_ | refine xno ?_ | refine xt ?_ | refine xf ?_)
  have hbad : ∀ (h : l.length = 0 ∨ l.length > 128), newF 1 0 = ckF l := by
    intro h; unfold ckF newF; rw [if_pos h]; rfl
  refine xbc 9 (fun h1 => ?_) (fun h1 => ?_)
  · repeat (first | refine xst ?_ | refine xar ?_ | refine xop ?_ | refine xlen ?_ | refine xld rfl ?_ | refine xsto rfl ?_ | refine xno ?_ | refine xt ?_ | refine xf ?_)
    refine xcall (new_spec 1 0) ?_
    rintro v H rfl
    refine G.app ?_
    repeat (first | refine xst ?_ | refine xar ?_ | refine xop ?_ | refine xlen ?_ | refine xld rfl ?_ | refine xsto rfl ?_ | refine xno ?_ | refine xt ?_ | refine xf ?_)
    refine xretp [0] ?_
    rw [hbad (by omega)]; rfl
  · repeat (first | refine xst ?_ | refine xar ?_ | refine xop ?_ | refine xlen ?_ | refine xld rfl ?_ | refine xsto rfl ?_ | refine xno ?_ | refine xt ?_ | refine xf ?_)
    refine xd (fun h2 => ?_) (fun h2 => ?_)
    · repeat (first | refine xst ?_ | refine xar ?_ | refine xop ?_ | refine xlen ?_ | refine xld rfl ?_ | refine xsto rfl ?_ | refine xno ?_ | refine xt ?_ | refine xf ?_)
      refine xcall (new_spec 1 0) ?_
      rintro v H rfl
      refine G.app ?_
      repeat (first | refine xst ?_ | refine xar ?_ | refine xop ?_ | refine xlen ?_ | refine xld rfl ?_ | refine xsto rfl ?_ | refine xno ?_ | refine xt ?_ | refine xf ?_)
      refine xretp [0] ?_
      rw [hbad (by omega)]; rfl
    · repeat (first | refine xst ?_ | refine xar ?_ | refine xop ?_ | refine xlen ?_ | refine xld rfl ?_ | refine xsto rfl ?_ | refine xno ?_ | refine xt ?_ | refine xf ?_)
      obtain ⟨b, off, rfl, hsb⟩ := hr.some (by omega)
      refine G.loop (σ := Nat) (fun k => [(0, .slice (some ⟨b, off, none⟩) l.length cap), (15, .slice (some ⟨b, off, none⟩) l.length cap), (16, .int .i64 (l.length : Int)), (17, .int .i64 (k : Int))])
        (fun _ => []) (fun k => k ≤ l.length ∧ ckGo l.length 0 l = ckGo l.length k (l.drop k)) (fun k => l.length - k) 0 ⟨Nat.zero_le _, rfl⟩ ⟨rfl, rfl, rfl, rfl, trivial⟩ (Ent.refl _) ?_
      rintro k ⟨hk, hgo⟩
      repeat (first | refine xst ?_ | refine xar ?_ | refine xop ?_ | refine xlen ?_ | refine xld rfl ?_ | refine xsto rfl ?_ | refine xno ?_ | refine xt ?_ | refine xf ?_)
      refine xd (fun h3 => ?_) (fun h3 => ?_)
      · have hk' : k < l.length := by omega
        have hel : ((inssV l).drop (k * 4)).take 4 = insV l[k] := flat_elem insV_len l k hk'
        repeat (first | refine xst ?_ | refine xar ?_ | refine xop ?_ | refine xlen ?_ | refine xld rfl ?_ | refine xsto rfl ?_ | refine xno ?_ | refine xt ?_ | refine xf ?_)
        refine xix ?_
        refine xldla rfl (k * 4) (insV l[k]) rfl hel (by rw [inssV_len]; show k * 4 + 4 ≤ _; omega) ?_
        repeat (first | refine xst ?_ | refine xar ?_ | refine xop ?_ | refine xlen ?_ | refine xld rfl ?_ | refine xsto rfl ?_ | refine xno ?_ | refine xt ?_ | refine xf ?_)
        refine xnew fun b2 => ?_
        repeat (first | refine xst ?_ | refine xar ?_ | refine xop ?_ | refine xlen ?_ | refine xld rfl ?_ | refine xsto rfl ?_ | refine xno ?_ | refine xt ?_ | refine xf ?_)
        refine xcall (wellFormed_spec l[k]) ?_
        rintro v H ⟨rfl, rfl⟩
        refine G.app ?_
        have hdrop : l.drop k = l[k] :: l.drop (k + 1) := List.drop_eq_getElem_cons hk'
        rw [hdrop] at hgo
        repeat (first | refine xst ?_ | refine xar ?_ | refine xop ?_ | refine xlen ?_ | refine xld rfl ?_ | refine xsto rfl ?_ | refine xno ?_ | refine xt ?_ | refine xf ?_)
        refine xb (fun hw => ?_) (fun hw => ?_)
        · have hw : l[k].wf = false := by simpa using hw
          repeat (first | refine xst ?_ | refine xar ?_ | refine xop ?_ | refine xlen ?_ | refine xld rfl ?_ | refine xsto rfl ?_ | refine xno ?_ | refine xt ?_ | refine xf ?_)
          refine xcall (new_spec 3 k) ?_
          rintro v H rfl
          refine G.app ?_
          repeat (first | refine xst ?_ | refine xar ?_ | refine xop ?_ | refine xlen ?_ | refine xld rfl ?_ | refine xsto rfl ?_ | refine xno ?_ | refine xt ?_ | refine xf ?_)
          refine xretp [0] ?_
          have e : newF 3 k = ckF l := by
            unfold ckF; rw [if_neg (by omega), hgo]; simp only [ckGo, hw, if_true]; rfl
          rw [e]; rfl
        · have hw : l[k].wf = true := by simpa using hw
          repeat (first | refine xst ?_ | refine xar ?_ | refine xop ?_ | refine xlen ?_ | refine xld rfl ?_ | refine xsto rfl ?_ | refine xno ?_ | refine xt ?_ | refine xf ?_)
          refine xcall (leads_spec l[k]) ?_
          rintro v H ⟨rfl, rfl⟩
          refine G.app ?_
          repeat (first | refine xst ?_ | refine xar ?_ | refine xop ?_ | refine xlen ?_ | refine xld rfl ?_ | refine xsto rfl ?_ | refine xno ?_ | refine xt ?_ | refine xf ?_)
          refine xbb 29 (fun hl => ?_) (fun hl => ?_)
          · repeat (first | refine xst ?_ | refine xar ?_ | refine xop ?_ | refine xlen ?_ | refine xld rfl ?_ | refine xsto rfl ?_ | refine xno ?_ | refine xt ?_ | refine xf ?_)
            refine xcall (numberC_spec l[k]) ?_
            rintro v H ⟨rfl, rfl⟩
            refine G.app ?_
            repeat (first | refine xst ?_ | refine xar ?_ | refine xop ?_ | refine xlen ?_ | refine xld rfl ?_ | refine xsto rfl ?_ | refine xno ?_ | refine xt ?_ | refine xf ?_)
            refine xd (fun hn => ?_) (fun hn => ?_)
            · repeat (first | refine xst ?_ | refine xar ?_ | refine xop ?_ | refine xlen ?_ | refine xld rfl ?_ | refine xsto rfl ?_ | refine xno ?_ | refine xt ?_ | refine xf ?_)
              refine xcall (new_spec 4 k) ?_
              rintro v H rfl
              refine G.app ?_
              repeat (first | refine xst ?_ | refine xar ?_ | refine xop ?_ | refine xlen ?_ | refine xld rfl ?_ | refine xsto rfl ?_ | refine xno ?_ | refine xt ?_ | refine xf ?_)
              refine xretp [0] ?_
              have e : newF 4 k = ckF l := by
                unfold ckF; rw [if_neg (by omega), hgo]
                simp only [ckGo, hw, hl, Bool.true_eq_false, if_false, true_and]
                rw [if_pos (show l[k].num ≥ (l.length : Int) by omega)]; rfl
              rw [e]; rfl
            · repeat (first | refine xst ?_ | refine xar ?_ | refine xop ?_ | refine xlen ?_ | refine xld rfl ?_ | refine xsto rfl ?_ | refine xno ?_ | refine xt ?_ | refine xf ?_)
              refine G.fin (k + 1) ⟨⟨by omega, ?_⟩, by omega⟩ ⟨rfl, rfl, rfl, rfl, trivial⟩ ent_pick
              rw [hgo]; simp only [ckGo, hw, hl, Bool.true_eq_false, if_false, true_and]; rw [if_neg (by omega)]
          · repeat (first | refine xst ?_ | refine xar ?_ | refine xop ?_ | refine xlen ?_ | refine xld rfl ?_ | refine xsto rfl ?_ | refine xno ?_ | refine xt ?_ | refine xf ?_)
            refine G.fin (k + 1) ⟨⟨by omega, ?_⟩, by omega⟩ ⟨rfl, rfl, rfl, rfl, trivial⟩ ent_pick
            rw [hgo]; simp [ckGo, hw, hl]
      · obtain rfl : k = l.length := by omega
        have hgo : ckGo l.length 0 l = [] := by rw [hgo]; simp [ckGo]
        have hl1 : l.length - 1 < l.length := by omega
        have hlast : ckLast l = decide ((l[l.length - 1].op.toNat : Int) = 0 ∨ (l[l.length - 1].op.toNat : Int) = 15) := by
          unfold ckLast
          rw [List.getLast?_eq_getElem?, List.getElem?_eq_getElem hl1]
        have hcell : (inssV l)[(l.length - 1) * 4]? = some (bV l[l.length - 1].op) := by
          have := flat_get insV_len l (l.length - 1) 0 hl1 (by omega)
          simpa [inssV, insV] using this
        have e0 : ckF l = if ckLast l then [] else [(2, (l.length : Int) - 1)] := by
          unfold ckF; rw [if_neg (by omega), hgo]
        have hpred : ((l.length : Int) - 1) = ((l.length - 1 : Nat) : Int) := by omega
        repeat (first | refine xst ?_ | refine xar ?_ | refine xop ?_ | refine xlen ?_ | refine xld rfl ?_ | refine xsto rfl ?_ | refine xno ?_ | refine xt ?_ | refine xf ?_)
        refine xE 43 (.int .i64 ((l.length - 1 : Nat) : Int)) rfl (by rw [hpred]) ?_
        refine xE 5 (.int .i64 ((l.length - 1 : Nat) : Int)) rfl (by rw [hpred]) ?_
        refine xix ?_
        repeat (first | refine xst ?_ | refine xar ?_ | refine xop ?_ | refine xlen ?_ | refine xld rfl ?_ | refine xsto rfl ?_ | refine xno ?_ | refine xt ?_ | refine xf ?_)
        refine xldl rfl ((l.length - 1) * 4) hcell ?_
        repeat (first | refine xst ?_ | refine xar ?_ | refine xop ?_ | refine xlen ?_ | refine xld rfl ?_ | refine xsto rfl ?_ | refine xno ?_ | refine xt ?_ | refine xf ?_)
        refine xbc 48 (fun g1 => ?_) (fun g1 => ?_)
        · repeat (first | refine xst ?_ | refine xar ?_ | refine xop ?_ | refine xlen ?_ | refine xld rfl ?_ | refine xsto rfl ?_ | refine xno ?_ | refine xt ?_ | refine xf ?_)
          refine xix ?_
          repeat (first | refine xst ?_ | refine xar ?_ | refine xop ?_ | refine xlen ?_ | refine xld rfl ?_ | refine xsto rfl ?_ | refine xno ?_ | refine xt ?_ | refine xf ?_)
          refine xldl rfl ((l.length - 1) * 4) hcell ?_
          repeat (first | refine xst ?_ | refine xar ?_ | refine xop ?_ | refine xlen ?_ | refine xld rfl ?_ | refine xsto rfl ?_ | refine xno ?_ | refine xt ?_ | refine xf ?_)
          refine xb (fun g2 => ?_) (fun g2 => ?_)
          · repeat (first | refine xst ?_ | refine xar ?_ | refine xop ?_ | refine xlen ?_ | refine xld rfl ?_ | refine xsto rfl ?_ | refine xno ?_ | refine xt ?_ | refine xf ?_)
            refine xcall (new_spec 2 ((l.length - 1 : Nat) : Int)) ?_
            rintro v H rfl
            refine G.app ?_
            repeat (first | refine xst ?_ | refine xar ?_ | refine xop ?_ | refine xlen ?_ | refine xld rfl ?_ | refine xsto rfl ?_ | refine xno ?_ | refine xt ?_ | refine xf ?_)
            refine xretp [0] ?_
            have g2 : ¬ ((l[l.length - 1].op.toNat : Int) = 15) := by simpa using g2
            have e : newF 2 ((l.length - 1 : Nat) : Int) = ckF l := by
              rw [e0, hlast, decide_eq_false (by simp only [not_or]; exact ⟨by simpa using g1, g2⟩), hpred]; rfl
            rw [e]; rfl
          · repeat (first | refine xst ?_ | refine xar ?_ | refine xop ?_ | refine xlen ?_ | refine xld rfl ?_ | refine xsto rfl ?_ | refine xno ?_ | refine xt ?_ | refine xf ?_)
            refine G.fold (chain [] .nilIface) [] (fun w F _ => chain_nil w F) ?_
            refine xretp [0] ?_
            have g2 : ((l[l.length - 1].op.toNat : Int) = 15) := by simpa using g2
            have e : [] = ckF l := by
              rw [e0, hlast, decide_eq_true (.inr g2)]; rfl
            rw [← e]; rfl
        · repeat (first | refine xst ?_ | refine xar ?_ | refine xop ?_ | refine xlen ?_ | refine xld rfl ?_ | refine xsto rfl ?_ | refine xno ?_ | refine xt ?_ | refine xf ?_)
          refine G.fold (chain [] .nilIface) [] (fun w F _ => chain_nil w F) ?_
          refine xretp [0] ?_
          have e : [] = ckF l := by
            rw [e0, hlast, decide_eq_true (.inl (by simpa using g1))]; rfl
          rw [← e]; rfl
end Go.Proofs.YtdalmiacjicgpaaGreatDoor

/- code: Encode and Decode. -/
namespace Go.Proofs.YtdalmiacjicgpaaGreatDoor
open Go.W

def encI (l : List Ins) : List UInt8 := l.flatMap fun i => [i.op, i.a, i.b, i.c]
theorem encI_len (l : List Ins) : (encI l).length = l.length * 4 := by
  induction l with
  | nil => rfl
  | cons i l ih => simp only [encI, List.flatMap_cons, List.length_append, List.length_cons, List.length_nil] at *; omega
theorem bsV_encI (l : List Ins) : bsV (encI l) = inssV l := by
  induction l with
  | nil => rfl
  | cons i l ih => simp only [encI, inssV, List.flatMap_cons, bsV_append] at *; rw [ih]; rfl
/-- Bytes as instructions, four by four. -/
def listI : List UInt8 → List Ins
  | x :: y :: z :: w :: r => ⟨x, y, z, w⟩ :: listI r
  | _ => []
theorem listI_encI : ∀ l : List Ins, listI (encI l) = l
  | [] => rfl
  | i :: l => by
    show listI (i.op :: i.a :: i.b :: i.c :: encI l) = _
    rw [listI, listI_encI l]
theorem encI_listI : ∀ (bs : List UInt8), bs.length % 4 = 0 → encI (listI bs) = bs
  | [], _ => rfl
  | [_], h => by simp at h
  | [_, _], h => by simp at h
  | [_, _, _], h => by simp at h
  | x :: y :: z :: w :: r, h => by
    have := encI_listI r (by simp at h; omega)
    show x :: y :: z :: w :: encI (listI r) = _
    rw [this]
theorem listI_len {bs : List UInt8} (h : bs.length % 4 = 0) : (listI bs).length = bs.length / 4 := by
  have := congrArg List.length (encI_listI bs h)
  rw [encI_len] at this; omega
theorem listI_get {bs : List UInt8} (h : bs.length % 4 = 0) (k : Nat) (hk : k < (listI bs).length) (j : Nat) (hj : j < 4) : (bsV (bs.drop (4 * k)))[j]? = (insV (listI bs)[k])[j]? := by
  have e : bsV bs = inssV (listI bs) := by rw [← bsV_encI, encI_listI bs h]
  have := flat_get insV_len (listI bs) k j hk hj
  rw [← bsV_drop, e, List.getElem?_drop, ← this, Nat.mul_comm]; rfl

/-- What bytes decode to: the program, and the fault. -/
def decF (bs : List UInt8) : List (Int × Int) :=
  if bs.length % 4 ≠ 0 then [(2, ((bs.length / 4 : Nat) : Int))]
  else match ckF (listI bs) with
    | [] => []
    | (c, a) :: r => (c, 4 * a) :: (c, a) :: r
def decL (bs : List UInt8) : List Ins := if decF bs = [] then listI bs else []

theorem fill_flat {α : Type} {enc : α → List Value} {s : Nat} (he : ∀ x, (enc x).length = s) {l : List α} {z : List Value} (hz : z.length = s) {k : Nat} (hk : k < l.length) :
    ((l.take k).flatMap enc ++ zeros (l.length - k) z).take (k * s) ++ enc l[k] ++ ((l.take k).flatMap enc ++ zeros (l.length - k) z).drop (k * s + (enc l[k]).length) = (l.take (k + 1)).flatMap enc ++ zeros (l.length - (k + 1)) z := by
  have h1 : ((l.take k).flatMap enc).length = k * s := by rw [flat_length he, List.length_take, Nat.min_eq_left (by omega)]
  rw [List.take_append_of_le_length (by omega), List.take_of_length_le (by omega), List.drop_append, List.drop_eq_nil_of_le (by omega), h1, he, List.nil_append, List.take_succ_eq_append_getElem hk, List.flatMap_append]
  congr 1
  · simp
  · rw [show l.length - k = 1 + (l.length - (k + 1)) by omega, zeros_add, List.drop_append, List.drop_eq_nil_of_le, List.nil_append]
    · have : (zeros 1 z).length = s := by rw [zeros_length, hz, Nat.one_mul]
      rw [this, Nat.add_sub_cancel_left, Nat.sub_self, List.drop_zero]
    · rw [zeros_length, hz]; omega

theorem chain_one {l : List (Int × Int)} {v : Value} {w : World} {F : Foot} (h : (chain l v).holds w F) : oneC v = true := by
  cases l with
  | nil => have h : v = .nilIface := h; subst h; rfl
  | cons q l => obtain ⟨c, a⟩ := q; obtain ⟨b, u, F1, F2, ⟨h1, _⟩, _⟩ := h; subst h1; rfl

theorem ckGo_one (n : Nat) : ∀ (l : List Ins) (at_ : Nat), ckGo n at_ l = [] ∨ ∃ c x : Int, ckGo n at_ l = [(c, x)] ∧ (at_ : Int) ≤ x ∧ x < (at_ : Int) + l.length
  | [], _ => .inl rfl
  | i :: r, at_ => by
    unfold ckGo
    split
    · exact .inr ⟨3, at_, rfl, by omega, by simp; omega⟩
    · split
      · exact .inr ⟨4, at_, rfl, by omega, by simp; omega⟩
      · rcases ckGo_one n r (at_ + 1) with h | ⟨c, x, h, h1, h2⟩
        · exact .inl h
        · exact .inr ⟨c, x, h, by omega, by simp; omega⟩
theorem ckF_one (l : List Ins) : ckF l = [] ∨ ∃ c x : Int, ckF l = [(c, x)] ∧ 0 ≤ x ∧ x ≤ l.length := by
  unfold ckF
  split
  · exact .inr ⟨1, 0, rfl, by omega, by omega⟩
  · rcases ckGo_one l.length l 0 with h | ⟨c, x, h, h1, h2⟩
    · rw [h]
      simp only
      split
      · exact .inl rfl
      · exact .inr ⟨2, _, rfl, by omega, by omega⟩
    · rw [h]
      exact .inr ⟨c, x, rfl, by omega, by omega⟩

theorem decode_spec (a : Option Addr) (n cap : Nat) (bs : List UInt8) (hn : n = bs.length) (hlen : n ≤ 1000000) : Fun Tryz.prog 23 [.slice a n cap] [gErr, slR 1 a n cap (bsV bs)] []
    fun v H => ∃ a' cap' e, v = .tuple #[.slice a' (decL bs).length cap', e] ∧ oneC e = true ∧ H = [sl 4 a' (decL bs).length cap' (inssV (decL bs)), chain (decF bs) e] := by
  subst hn
  refine xenter (p := pg) Tryz.call23 Tryz.func23 fun C => ?_
  haveI := RP.of C (X := gErr) (by simp)
  have hr := RP.slR (RP.of C (X := slR 1 a bs.length cap (bsV bs)) (by simp))
  have hmod : ((bs.length : Int).tmod (Int.ofNat (3 + 1))) = ((bs.length % 4 : Nat) : Int) := rfl
  have hdiv : IntKind.i64.wrap ((bs.length : Int).tdiv (Int.ofNat (3 + 1))) = ((bs.length / 4 : Nat) : Int) := wrap_nat (n := bs.length / 4) (by omega)
  repeat (first | refine xst ?_ | refine xar ?_ | refine xop ?_ | refine xlen ?_ | refine xld rfl ?_ | refine xsto rfl ?_ | refine xno ?_ | refine xt ?_ | refine xf ?_)
  refine xd (fun h => ?_) (fun h => ?_)
  · rw [hmod] at h
    repeat (first | refine xst ?_ | refine xar ?_ | refine xop ?_ | refine xlen ?_ | refine xld rfl ?_ | refine xsto rfl ?_ | refine xno ?_ | refine xt ?_ | refine xf ?_)
    refine xE 14 (.int .i64 ((bs.length / 4 : Nat) : Int)) rfl (by rw [hdiv]) ?_
    refine xcall (new_spec 2 ((bs.length / 4 : Nat) : Int)) ?_
    rintro v H rfl
    refine G.app ?_
    refine G.fact (chain (newF 2 ((bs.length / 4 : Nat) : Int)) v) (P := oneC v = true) (fun w F h => chain_one h) fun h1 => ?_
    repeat (first | refine xst ?_ | refine xar ?_ | refine xop ?_ | refine xlen ?_ | refine xld rfl ?_ | refine xsto rfl ?_ | refine xno ?_ | refine xt ?_ | refine xf ?_)
    refine G.sln 4 ?_
    refine xretp [0, 0] ?_
    have e1 : decF bs = newF 2 ((bs.length / 4 : Nat) : Int) := by unfold decF; rw [if_pos (by omega)]; rfl
    have e2 : decL bs = [] := by unfold decL; rw [e1]; rfl
    rw [e1, e2]
    exact ⟨none, 0, v, rfl, h1, rfl⟩
  · rw [hmod] at h
    have h4 : bs.length % 4 = 0 := by omega
    have hll := listI_len h4
    repeat (first | refine xst ?_ | refine xar ?_ | refine xop ?_ | refine xlen ?_ | refine xld rfl ?_ | refine xsto rfl ?_ | refine xno ?_ | refine xt ?_ | refine xf ?_)
    refine xE 18 (.int .i64 ((bs.length / 4 : Nat) : Int)) rfl (by rw [hdiv]) ?_
    rw [← hll]
    refine xmake (listI bs).length (listI bs).length rfl rfl rfl (Nat.le_refl _) (by omega) (by omega) fun b => ?_
    repeat (first | refine xst ?_ | refine xar ?_ | refine xop ?_ | refine xlen ?_ | refine xld rfl ?_ | refine xsto rfl ?_ | refine xno ?_ | refine xt ?_ | refine xf ?_)
    refine G.loop (σ := Nat) (fun k => [(0, .slice a bs.length cap), (4, .slice (some ⟨b, 0, none⟩) (listI bs).length (listI bs).length), (21, .int .i64 ((listI bs).length : Int)), (22, .int .i64 (k : Int))])
      (fun k => [sl 4 (some ⟨b, 0, none⟩) (listI bs).length (listI bs).length (inssV ((listI bs).take k) ++ zeros ((listI bs).length - k) [.int .u8 0, .int .u8 0, .int .u8 0, .int .u8 0])]) (fun k => k ≤ (listI bs).length) (fun k => (listI bs).length - k) 0 (Nat.zero_le _) ⟨rfl, rfl, rfl, rfl, trivial⟩ (Ent.refl _) ?_
    intro k hk
    repeat (first | refine xst ?_ | refine xar ?_ | refine xop ?_ | refine xlen ?_ | refine xld rfl ?_ | refine xsto rfl ?_ | refine xno ?_ | refine xt ?_ | refine xf ?_)
    refine xd (fun h3 => ?_) (fun h3 => ?_)
    · have hk' : k < (listI bs).length := by omega
      repeat (first | refine xst ?_ | refine xar ?_ | refine xop ?_ | refine xlen ?_ | refine xld rfl ?_ | refine xsto rfl ?_ | refine xno ?_ | refine xt ?_ | refine xf ?_)
      refine xslice (4 * k) bs.length rfl (by rw [Int.natCast_mul]; rfl) rfl (by omega) hr.len.2 ?_
      obtain ⟨b1, off, pre, rest, he, hp, hb⟩ := (hr.subB (k := 4 * k) (m := bs.length) (by omega) (Nat.le_refl _)).blk (by omega)
      refine xE 28 (.slice (some ⟨b1, off, none⟩) (bs.length - 4 * k) (cap - 4 * k)) rfl (congrArg (fun z => Value.slice z (bs.length - 4 * k) (cap - 4 * k)) he) ?_
      repeat (first | refine xst ?_ | refine xar ?_ | refine xop ?_ | refine xlen ?_ | refine xld rfl ?_ | refine xsto rfl ?_ | refine xno ?_ | refine xt ?_ | refine xf ?_)
      subst hp
      have hq : ∀ j, j < 4 → (bsV ((bs.drop (4 * k)).take (bs.length - 4 * k)))[j]? = (insV (listI bs)[k])[j]? := by
        intro j hj
        rw [← listI_get h4 k hk' j hj, List.take_of_length_le (by simp)]
      have hq4 : ∀ j, j < 4 → j < bs.length - 4 * k := by intro j hj; omega
      refine xdraw ?_
      refine xdop 0 ?_
      refine xdop 1 ?_
      refine xdop 2 ?_
      refine xdix 3 ?_ (hk := hq4 0 (by omega))
      refine xdld 4 rfl rfl ?_ (hv := partF_mid (j := 0) (hq 0 (by omega)))
      refine xdop 5 ?_
      refine xdix 6 ?_ (hk := hq4 1 (by omega))
      refine xdld 7 rfl rfl ?_ (hv := partF_mid (j := 1) (hq 1 (by omega)))
      refine xdop 8 ?_
      refine xdix 9 ?_ (hk := hq4 2 (by omega))
      refine xdld 10 rfl rfl ?_ (hv := partF_mid (j := 2) (hq 2 (by omega)))
      refine xdop 11 ?_
      refine xdix 12 ?_ (hk := hq4 3 (by omega))
      refine xdld 13 rfl rfl ?_ (hv := partF_mid (j := 3) (hq 3 (by omega)))
      refine xdop 14 ?_
      refine xdix 15 ?_
      refine xdact 16 ?_
      refine xstl rfl (k * 4) (inssV ((listI bs).take (k + 1)) ++ zeros ((listI bs).length - (k + 1)) [.int .u8 0, .int .u8 0, .int .u8 0, .int .u8 0]) (fill_flat insV_len rfl hk') ?_ ?_
      · rw [List.length_append, flat_length insV_len, List.length_take, zeros_length]; show k * 4 + 4 ≤ _ + _ * 4; omega
      refine xst ?_
      refine xdend ?_
      repeat (first | refine xst ?_ | refine xar ?_ | refine xop ?_ | refine xlen ?_ | refine xld rfl ?_ | refine xsto rfl ?_ | refine xno ?_ | refine xt ?_ | refine xf ?_)
      exact G.fin (k + 1) ⟨by omega, by omega⟩ ⟨rfl, rfl, rfl, rfl, trivial⟩ ent_pick
    · obtain rfl : k = (listI bs).length := by omega
      rw [List.take_length, Nat.sub_self, show zeros 0 [.int .u8 0, .int .u8 0, .int .u8 0, .int .u8 0] = [] from rfl, List.append_nil]
      repeat (first | refine xst ?_ | refine xar ?_ | refine xop ?_ | refine xlen ?_ | refine xld rfl ?_ | refine xsto rfl ?_ | refine xno ?_ | refine xt ?_ | refine xf ?_)
      refine xcall (check_spec (some ⟨b, 0, none⟩) (listI bs).length (listI bs).length (listI bs) rfl (by omega)) ?_
      rintro v H rfl
      refine G.app ?_
      have e3 : decF bs = match ckF (listI bs) with | [] => [] | (c, a) :: r => (c, 4 * a) :: (c, a) :: r := by unfold decF; rw [if_neg (by omega)]
      have e4 : decL bs = if decF bs = [] then listI bs else [] := rfl
      cases hck : ckF (listI bs) with
      | nil =>
        refine G.fact (chain [] v) (P := v = .nilIface) (fun w F h => h) fun h => ?_
        subst h
        rw [hck] at e3
        simp only at e3
        rw [e3, if_pos rfl] at e4
        repeat (first | refine xst ?_ | refine xar ?_ | refine xop ?_ | refine xlen ?_ | refine xld rfl ?_ | refine xsto rfl ?_ | refine xno ?_ | refine xt ?_ | refine xf ?_)
        refine xretp [1, 0] ?_
        rw [e3, e4]
        exact ⟨_, _, _, rfl, rfl, rfl⟩
      | cons q r =>
        obtain ⟨c, x⟩ := q
        refine G.fact (chain ((c, x) :: r) v) (P := ∃ b : Nat, v = .iface 179 (.pointer (some ⟨b, 0, none⟩))) (fun w F h => by obtain ⟨b, u, F1, F2, ⟨h1, h2⟩, _⟩ := h; exact ⟨b, h1⟩) fun h => ?_
        obtain ⟨b2, rfl⟩ := h
        repeat (first | refine xst ?_ | refine xar ?_ | refine xop ?_ | refine xlen ?_ | refine xld rfl ?_ | refine xsto rfl ?_ | refine xno ?_ | refine xt ?_ | refine xf ?_)
        have h1 : r = [] ∧ 0 ≤ x ∧ x ≤ (listI bs).length := by
          rcases ckF_one (listI bs) with h | ⟨c', x', h, h1, h2⟩
          · rw [h] at hck; cases hck
          · rw [h] at hck; cases hck; exact ⟨rfl, h1, h2⟩
        obtain ⟨rfl, hx1, hx2⟩ := h1
        refine xcall (path_spec [(c, x)] (.iface 179 (.pointer (some ⟨b2, 0, none⟩))) (by simp)) ?_
        rintro v H ⟨a', cap', rfl, rfl⟩
        refine G.app ?_
        refine xslf 0 rfl fun _ hc hs => ?_
        obtain ⟨b3, off, rfl⟩ := hs (by simp at hc; omega)
        repeat (first | refine xst ?_ | refine xar ?_ | refine xop ?_ | refine xlen ?_ | refine xld rfl ?_ | refine xsto rfl ?_ | refine xno ?_ | refine xt ?_ | refine xf ?_)
        refine xix (hk := by show 0 < 1; omega) ?_
        refine xldl rfl 0 (v := .int .i64 x) rfl ?_
        repeat (first | refine xst ?_ | refine xar ?_ | refine xop ?_ | refine xlen ?_ | refine xld rfl ?_ | refine xsto rfl ?_ | refine xno ?_ | refine xt ?_ | refine xf ?_)
        refine xcall (in_spec [(c, x)] (.iface 179 (.pointer (some ⟨b2, 0, none⟩))) (4 * x) rfl) ?_
        rintro v H rfl
        refine G.app ?_
        refine G.fact (chain (inF [(c, x)] (4 * x)) v) (P := oneC v = true) (fun w F h => chain_one h) fun h1 => ?_
        repeat (first | refine xst ?_ | refine xar ?_ | refine xop ?_ | refine xlen ?_ | refine xld rfl ?_ | refine xsto rfl ?_ | refine xno ?_ | refine xt ?_ | refine xf ?_)
        refine G.sln 4 ?_
        refine xretp [0, 0] ?_
        have e5 : decF bs = inF [(c, x)] (4 * x) := by rw [e3, hck]; rfl
        have e6 : decL bs = [] := by rw [e4, e5]; rfl
        rw [e5, e6]
        exact ⟨none, 0, v, rfl, h1, rfl⟩
end Go.Proofs.YtdalmiacjicgpaaGreatDoor

/- sha: rotate, expand. -/
namespace Go.Proofs.YtdalmiacjicgpaaGreatDoor
open Go.W

theorem rotL_spec (x : UInt32) (n : Nat) (h1 : 1 ≤ n) (h2 : n ≤ 31) : Fun Tryz.prog 178 [wV x, .int .i64 (-(n : Int))] [] [] fun v H => v = wV (rotr x n) ∧ H = [] := by
  have e8 : IntKind.u64.wrap ((BitVec.ofInt IntKind.u64.bits (IntKind.u64.wrap (-(n : Int))) &&& BitVec.ofInt IntKind.u64.bits 31).toNat : Int) = ((32 - n : Nat) : Int) := by
    have : n = 1 ∨ n = 2 ∨ n = 3 ∨ n = 4 ∨ n = 5 ∨ n = 6 ∨ n = 7 ∨ n = 8 ∨ n = 9 ∨ n = 10 ∨ n = 11 ∨ n = 12 ∨ n = 13 ∨ n = 14 ∨ n = 15 ∨ n = 16 ∨ n = 17 ∨ n = 18 ∨ n = 19 ∨ n = 20 ∨ n = 21 ∨ n = 22 ∨ n = 23 ∨ n = 24 ∨ n = 25 ∨ n = 26 ∨ n = 27 ∨ n = 28 ∨ n = 29 ∨ n = 30 ∨ n = 31 := by omega
    rcases this with rfl|rfl|rfl|rfl|rfl|rfl|rfl|rfl|rfl|rfl|rfl|rfl|rfl|rfl|rfl|rfl|rfl|rfl|rfl|rfl|rfl|rfl|rfl|rfl|rfl|rfl|rfl|rfl|rfl|rfl|rfl <;> rfl
  have e14 : IntKind.u64.wrap (32 - ((32 - n : Nat) : Int)) = ((n : Nat) : Int) := by
    rw [show (32 - ((32 - n : Nat) : Int)) = ((n : Nat) : Int) by omega]; exact u64_wrap (by omega)
  refine xenter (p := pg) Tryz.call178 Tryz.func178 fun C => ?_
  repeat (refine xnot 8 ?_; first | refine xst ?_ | refine xar ?_ | refine xop ?_ | refine xlen ?_ | refine xld rfl ?_ | refine xsto rfl ?_ | refine xno ?_ | refine xt ?_ | refine xf ?_)
  refine xE 8 (.int .u64 ((32 - n : Nat) : Int)) rfl (congrArg (Value.int .u64) e8) ?_
  repeat (refine xnot 11 ?_; first | refine xst ?_ | refine xar ?_ | refine xop ?_ | refine xlen ?_ | refine xld rfl ?_ | refine xsto rfl ?_ | refine xno ?_ | refine xt ?_ | refine xf ?_)
  refine xE 11 (wV (wShl x (32 - n))) rfl (congrArg (Value.int .u32) (w_shl x (32 - n) (by omega))) ?_
  repeat (refine xnot 14 ?_; first | refine xst ?_ | refine xar ?_ | refine xop ?_ | refine xlen ?_ | refine xld rfl ?_ | refine xsto rfl ?_ | refine xno ?_ | refine xt ?_ | refine xf ?_)
  refine xE 14 (.int .u64 (n : Int)) rfl (congrArg (Value.int .u64) e14) ?_
  repeat (refine xnot 15 ?_; first | refine xst ?_ | refine xar ?_ | refine xop ?_ | refine xlen ?_ | refine xld rfl ?_ | refine xsto rfl ?_ | refine xno ?_ | refine xt ?_ | refine xf ?_)
  refine xE 15 (wV (wShr x n)) rfl (congrArg (Value.int .u32) (w_shr x n (by omega))) ?_
  repeat (refine xnot 16 ?_; first | refine xst ?_ | refine xar ?_ | refine xop ?_ | refine xlen ?_ | refine xld rfl ?_ | refine xsto rfl ?_ | refine xno ?_ | refine xt ?_ | refine xf ?_)
  refine xE 16 (wV (rotr x n)) rfl (congrArg (Value.int .u32) (w_or _ _)) ?_
  repeat (first | refine xst ?_ | refine xar ?_ | refine xop ?_ | refine xlen ?_ | refine xld rfl ?_ | refine xsto rfl ?_ | refine xno ?_ | refine xt ?_ | refine xf ?_)
  exact xret [] ⟨rfl, rfl⟩

theorem rotate_spec (x : UInt32) (n : Nat) (h1 : 1 ≤ n) (h2 : n ≤ 31) : Fun Tryz.prog 160 [wV x, .int .i64 (n : Int)] [] [] fun v H => v = wV (rotr x n) ∧ H = [] := by
  refine xenter (p := pg) Tryz.call160 Tryz.func160 fun C => ?_
  repeat (refine xnot 7 ?_; first | refine xst ?_ | refine xar ?_ | refine xop ?_ | refine xlen ?_ | refine xld rfl ?_ | refine xsto rfl ?_ | refine xno ?_ | refine xt ?_ | refine xf ?_)
  refine xE 7 (.int .i64 (-(n : Int))) rfl (congrArg (Value.int .i64) (by rw [Int.zero_sub]; exact wrap_in (k := .i64) ⟨by omega, by omega⟩)) ?_
  refine xcall (rotL_spec x n h1 h2) ?_
  rintro v H ⟨rfl, rfl⟩
  refine G.app ?_
  repeat (first | refine xst ?_ | refine xar ?_ | refine xop ?_ | refine xlen ?_ | refine xld rfl ?_ | refine xsto rfl ?_ | refine xno ?_ | refine xt ?_ | refine xf ?_)
  exact xret [] ⟨rfl, rfl⟩
end Go.Proofs.YtdalmiacjicgpaaGreatDoor

/- sha: expand. -/
namespace Go.Proofs.YtdalmiacjicgpaaGreatDoor
open Go.W

def w8 (x : UInt8) : UInt32 := UInt32.ofNat x.toNat
def wOf (a b c d : UInt8) : UInt32 := wShl (w8 a) 24 ||| wShl (w8 b) 16 ||| wShl (w8 c) 8 ||| w8 d
def gB (bl : List UInt8) (i : Nat) : UInt8 := bl.getD i 0
def gW (l : List UInt32) (i : Nat) : UInt32 := l.getD i 0
def sg0 (x : UInt32) : UInt32 := rotr x 7 ^^^ rotr x 18 ^^^ wShr x 3
def sg1 (y : UInt32) : UInt32 := rotr y 17 ^^^ rotr y 19 ^^^ wShr y 10
def wNext (bl : List UInt8) (l : List UInt32) (t : Nat) : UInt32 :=
  if t < 16 then wOf (gB bl (4 * t)) (gB bl (4 * t + 1)) (gB bl (4 * t + 2)) (gB bl (4 * t + 3))
  else sg1 (gW l (t - 2)) + gW l (t - 7) + sg0 (gW l (t - 15)) + gW l (t - 16)
def wL (bl : List UInt8) : Nat → List UInt32
  | 0 => []
  | t + 1 => wL bl t ++ [wNext bl (wL bl t) t]
theorem wL_len (bl : List UInt8) : ∀ t, (wL bl t).length = t
  | 0 => rfl
  | t + 1 => by simp [wL, wL_len bl t]
def z32 : List Value := [.int .u32 0]
def wRow (bl : List UInt8) (t : Nat) : List Value := wsV (wL bl t) ++ zeros (64 - t) z32
theorem wRow_len (bl : List UInt8) (t : Nat) (h : t ≤ 64) : (wRow bl t).length = 64 := by
  unfold wRow; rw [List.length_append, wsV_length, wL_len, zeros_length]; simp [z32]; omega
theorem wRow_get (bl : List UInt8) (t i : Nat) (h : i < t) : (wRow bl t)[i]? = some (wV (gW (wL bl t) i)) := by
  unfold wRow gW
  have hl : i < (wL bl t).length := by rw [wL_len]; exact h
  rw [List.getElem?_append_left (by rw [wsV_length]; exact hl), wsV_get hl, List.getD_eq_getElem?_getD, List.getElem?_eq_getElem hl]; rfl
theorem wRow_set (bl : List UInt8) (t : Nat) (h : t < 64) : (wRow bl t).set t (wV (wNext bl (wL bl t) t)) = wRow bl (t + 1) := by
  unfold wRow z32
  rw [fill_set (by rw [wsV_length, wL_len]) h, wL, wsV_append]; rfl
theorem gB_get {bl : List UInt8} {i : Nat} (h : i < bl.length) : (bsV bl)[i]? = some (bV (gB bl i)) := by
  rw [bsV_get h]; unfold gB; rw [List.getD_eq_getElem?_getD, List.getElem?_eq_getElem h]; rfl

set_option maxHeartbeats 600000 in
theorem expand_spec (bl : List UInt8) (hb : bl.length = 64) : Fun Tryz.prog 159 [.agg (bsV bl).toArray] [] [] fun v H => v = .agg (wsV (wL bl 64)).toArray ∧ H = [] := by
  refine xenter (p := pg) Tryz.call159 Tryz.func159 fun C => ?_
  repeat (first | refine xst ?_ | refine xar ?_ | refine xop ?_ | refine xlen ?_ | refine xld rfl ?_ | refine xsto rfl ?_ | refine xno ?_ | refine xt ?_ | refine xf ?_)
  refine xnew fun b1 => ?_
  refine xnew fun b2 => ?_
  repeat (first | refine xst ?_ | refine xar ?_ | refine xop ?_ | refine xlen ?_ | refine xld rfl ?_ | refine xsto rfl ?_ | refine xno ?_ | refine xt ?_ | refine xf ?_)
  refine xnew fun b3 => ?_
  refine xrep 0 (wRow bl 0) rfl rfl ?_
  repeat (first | refine xst ?_ | refine xar ?_ | refine xop ?_ | refine xlen ?_ | refine xld rfl ?_ | refine xsto rfl ?_ | refine xno ?_ | refine xt ?_ | refine xf ?_)
  refine G.loop (σ := Nat) (fun t => [(1, .pointer (some ⟨b1, 0, none⟩)), (2, .pointer (some ⟨b2, 0, none⟩)), (3, .pointer (some ⟨b3, 0, none⟩)), (11, .int .i64 (t : Int))])
    (fun t => [pts b3 (wRow bl t), pts b2 (zeros 64 z32), pts b1 (bsV bl)]) (fun t => t ≤ 16) (fun t => 16 - t) 0 (Nat.zero_le _) ⟨rfl, rfl, rfl, rfl, trivial⟩ (Ent.refl _) ?_
  intro t ht
  repeat (first | refine xst ?_ | refine xar ?_ | refine xop ?_ | refine xlen ?_ | refine xld rfl ?_ | refine xsto rfl ?_ | refine xno ?_ | refine xt ?_ | refine xf ?_)
  refine xd (fun h3 => ?_) (fun h3 => ?_)
  · have ht' : t < 16 := by omega
    repeat (first | refine xst ?_ | refine xar ?_ | refine xop ?_ | refine xlen ?_ | refine xld rfl ?_ | refine xsto rfl ?_ | refine xno ?_ | refine xt ?_ | refine xf ?_)
    refine xslice (4 * t) 64 rfl (by rw [Int.natCast_mul]; rfl) rfl (by omega) (Nat.le_refl _) ?_
    refine xE 16 (.slice (some ⟨b1, 4 * t, none⟩) (64 - 4 * t) (64 - 4 * t)) rfl (congrArg (fun z => Value.slice z (64 - 4 * t) (64 - 4 * t)) ((subA_lt (by omega)).trans (by rw [Nat.zero_add]; exact congrArg (fun o => some (Addr.mk b1 o none)) (Nat.mul_one _)))) ?_
    repeat (first | refine xst ?_ | refine xar ?_ | refine xop ?_ | refine xlen ?_ | refine xld rfl ?_ | refine xsto rfl ?_ | refine xno ?_ | refine xt ?_ | refine xf ?_)
    have hq : ∀ j, j < 4 → j < 64 - 4 * t := by intro j hj; omega
    have hg : ∀ j, j < 4 → partF (⟨.int .u8, 1, 1, [.int .u8 0]⟩ : TI) (bsV bl) (4 * t + j) = some (bV (gB bl (4 * t + j))) := fun j hj => partF_one rfl (gB_get (by omega))
    refine xdraw ?_
    refine xdop 0 ?_
    refine xdop 1 ?_
    refine xdix 2 ?_ (hk := hq 0 (by omega))
    refine xdld 3 rfl rfl ?_ (hv := hg 0 (by omega))
    (first | refine xdar 4 ?_ | refine xdop 4 ?_)
    refine xE 21 (wV (w8 (gB bl (4 * t + 0)))) rfl (congrArg (Value.int .u32) (w_wrap _)) ?_
    refine xdop 5 ?_
    refine xE 22 (wV (wShl (w8 (gB bl (4 * t + 0))) 24)) rfl (congrArg (Value.int .u32) (w_shl _ 24 (by omega))) ?_
    refine xdop 6 ?_
    refine xdix 7 ?_ (hk := hq 1 (by omega))
    refine xdld 8 rfl rfl ?_ (hv := hg 1 (by omega))
    (first | refine xdar 9 ?_ | refine xdop 9 ?_)
    refine xE 26 (wV (w8 (gB bl (4 * t + 1)))) rfl (congrArg (Value.int .u32) (w_wrap _)) ?_
    refine xdop 10 ?_
    refine xE 27 (wV (wShl (w8 (gB bl (4 * t + 1))) 16)) rfl (congrArg (Value.int .u32) (w_shl _ 16 (by omega))) ?_
    refine xdop 11 ?_
    refine xE 28 (wV ((wShl (w8 (gB bl (4 * t + 0))) 24) ||| (wShl (w8 (gB bl (4 * t + 1))) 16))) rfl (congrArg (Value.int .u32) (w_or _ _)) ?_
    refine xdop 12 ?_
    refine xdix 13 ?_ (hk := hq 2 (by omega))
    refine xdld 14 rfl rfl ?_ (hv := hg 2 (by omega))
    (first | refine xdar 15 ?_ | refine xdop 15 ?_)
    refine xE 32 (wV (w8 (gB bl (4 * t + 2)))) rfl (congrArg (Value.int .u32) (w_wrap _)) ?_
    refine xdop 16 ?_
    refine xE 33 (wV (wShl (w8 (gB bl (4 * t + 2))) 8)) rfl (congrArg (Value.int .u32) (w_shl _ 8 (by omega))) ?_
    refine xdop 17 ?_
    refine xE 34 (wV ((wShl (w8 (gB bl (4 * t + 0))) 24) ||| (wShl (w8 (gB bl (4 * t + 1))) 16) ||| (wShl (w8 (gB bl (4 * t + 2))) 8))) rfl (congrArg (Value.int .u32) (w_or _ _)) ?_
    refine xdop 18 ?_
    refine xdix 19 ?_ (hk := hq 3 (by omega))
    refine xdld 20 rfl rfl ?_ (hv := hg 3 (by omega))
    (first | refine xdar 21 ?_ | refine xdop 21 ?_)
    refine xE 38 (wV (w8 (gB bl (4 * t + 3)))) rfl (congrArg (Value.int .u32) (w_wrap _)) ?_
    refine xdop 22 ?_
    refine xE 39 (wV (wNext bl (wL bl t) t)) rfl ((congrArg (Value.int .u32) (w_or ((wShl (w8 (gB bl (4 * t + 0))) 24) ||| (wShl (w8 (gB bl (4 * t + 1))) 16) ||| (wShl (w8 (gB bl (4 * t + 2))) 8)) (w8 (gB bl (4 * t + 3))))).trans (by unfold wNext; rw [if_pos ht']; rfl)) ?_
    refine xdix 23 ?_ (hk := by omega)
    refine xEp 40 t rfl (Nat.zero_add _) ?_
    refine xdact 24 ?_
    refine xsto rfl ?_ (hm := (putF_one (by rw [wRow_len bl t (by omega)]; omega)).trans (congrArg some (wRow_set bl t (by omega))))
    refine xst ?_
    refine xdend ?_
    repeat (first | refine xst ?_ | refine xar ?_ | refine xop ?_ | refine xlen ?_ | refine xld rfl ?_ | refine xsto rfl ?_ | refine xno ?_ | refine xt ?_ | refine xf ?_)
    exact G.fin (t + 1) ⟨by omega, by omega⟩ ⟨rfl, rfl, rfl, rfl, trivial⟩ ent_pick
  · obtain rfl : t = 16 := by omega
    repeat (first | refine xst ?_ | refine xar ?_ | refine xop ?_ | refine xlen ?_ | refine xld rfl ?_ | refine xsto rfl ?_ | refine xno ?_ | refine xt ?_ | refine xf ?_)
    refine xrep 0 (wRow bl 16) rfl rfl ?_
    refine G.loop (σ := Nat) (fun t => [(2, .pointer (some ⟨b2, 0, none⟩)), (3, .pointer (some ⟨b3, 0, none⟩)), (6, .int .i64 (t : Int))])
      (fun t => [pts b3 (wRow bl t), pts b2 (zeros 64 z32), pts b1 (bsV bl)]) (fun t => 16 ≤ t ∧ t ≤ 64) (fun t => 64 - t) 16 ⟨by omega, by omega⟩ ⟨rfl, rfl, rfl, trivial⟩ (Ent.refl _) ?_
    rintro t ⟨ht, ht2⟩
    repeat (first | refine xst ?_ | refine xar ?_ | refine xop ?_ | refine xlen ?_ | refine xld rfl ?_ | refine xsto rfl ?_ | refine xno ?_ | refine xt ?_ | refine xf ?_)
    refine xd (fun h4 => ?_) (fun h4 => ?_)
    · have ht' : t < 64 := by omega
      have hget : ∀ j, 1 ≤ j → j ≤ 16 → partF (⟨.int .u32, 1, 4, [.int .u32 0]⟩ : TI) (wRow bl t) (t - j) = some (wV (gW (wL bl t) (t - j))) := fun j h1 h2 => partF_one rfl (wRow_get bl t (t - j) (by omega))
      have hsub : ∀ j : Nat, j ≤ 16 → ((t : Int) - (j : Int)) = ((t - j : Nat) : Int) := fun j hj => by omega
      repeat (first | refine xst ?_ | refine xar ?_ | refine xop ?_ | refine xlen ?_ | refine xld rfl ?_ | refine xsto rfl ?_ | refine xno ?_ | refine xt ?_ | refine xf ?_)
      refine xdraw ?_
      refine xdop 0 ?_
      (first | refine xdar 1 ?_ | refine xdop 1 ?_)
      refine xE 47 (.int .i64 ((t - 15 : Nat) : Int)) rfl (congrArg (Value.int .i64) (hsub 15 (by omega))) ?_
      refine xdix 2 ?_ (hk := by omega)
      refine xEp 48 (t - 15) rfl (Nat.zero_add _) ?_
      refine xdld 3 rfl rfl ?_ (hv := hget 15 (by omega) (by omega))
      refine xdop 4 ?_
      (first | refine xdar 5 ?_ | refine xdop 5 ?_)
      refine xE 51 (.int .i64 ((t - 2 : Nat) : Int)) rfl (congrArg (Value.int .i64) (hsub 2 (by omega))) ?_
      refine xdix 6 ?_ (hk := by omega)
      refine xEp 52 (t - 2) rfl (Nat.zero_add _) ?_
      refine xdld 7 rfl rfl ?_ (hv := hget 2 (by omega) (by omega))
      refine xdop 8 ?_
      refine xdop 9 ?_
      refine xdend ?_
      repeat (first | refine xst ?_ | refine xar ?_ | refine xop ?_ | refine xlen ?_ | refine xld rfl ?_ | refine xsto rfl ?_ | refine xno ?_ | refine xt ?_ | refine xf ?_)
      refine xcall (rotate_spec (gW (wL bl t) (t - 15)) 7 (by omega) (by omega)) ?_
      rintro v H ⟨rfl, rfl⟩
      refine G.app ?_
      repeat (first | refine xst ?_ | refine xar ?_ | refine xop ?_ | refine xlen ?_ | refine xld rfl ?_ | refine xsto rfl ?_ | refine xno ?_ | refine xt ?_ | refine xf ?_)
      refine xcall (rotate_spec (gW (wL bl t) (t - 15)) 18 (by omega) (by omega)) ?_
      rintro v H ⟨rfl, rfl⟩
      refine G.app ?_
      repeat (refine xnot 9 ?_; first | refine xst ?_ | refine xar ?_ | refine xop ?_ | refine xlen ?_ | refine xld rfl ?_ | refine xsto rfl ?_ | refine xno ?_ | refine xt ?_ | refine xf ?_)
      refine xE 9 (wV (sg0 (gW (wL bl t) (t - 15)))) rfl (wE (by simp only [w_xor, w_shr _ 3 (by omega)]; rfl)) ?_
      repeat (first | refine xst ?_ | refine xar ?_ | refine xop ?_ | refine xlen ?_ | refine xld rfl ?_ | refine xsto rfl ?_ | refine xno ?_ | refine xt ?_ | refine xf ?_)
      refine xcall (rotate_spec (gW (wL bl t) (t - 2)) 17 (by omega) (by omega)) ?_
      rintro v H ⟨rfl, rfl⟩
      refine G.app ?_
      repeat (first | refine xst ?_ | refine xar ?_ | refine xop ?_ | refine xlen ?_ | refine xld rfl ?_ | refine xsto rfl ?_ | refine xno ?_ | refine xt ?_ | refine xf ?_)
      refine xcall (rotate_spec (gW (wL bl t) (t - 2)) 19 (by omega) (by omega)) ?_
      rintro v H ⟨rfl, rfl⟩
      refine G.app ?_
      repeat (refine xnot 10 ?_; first | refine xst ?_ | refine xar ?_ | refine xop ?_ | refine xlen ?_ | refine xld rfl ?_ | refine xsto rfl ?_ | refine xno ?_ | refine xt ?_ | refine xf ?_)
      refine xE 10 (wV (sg1 (gW (wL bl t) (t - 2)))) rfl (wE (by simp only [w_xor, w_shr _ 10 (by omega)]; rfl)) ?_
      repeat (first | refine xst ?_ | refine xar ?_ | refine xop ?_ | refine xlen ?_ | refine xld rfl ?_ | refine xsto rfl ?_ | refine xno ?_ | refine xt ?_ | refine xf ?_)
      refine xdraw ?_
      refine xdop 0 ?_
      refine xdop 1 ?_
      refine xdop 2 ?_
      (first | refine xdar 3 ?_ | refine xdop 3 ?_)
      refine xE 73 (.int .i64 ((t - 7 : Nat) : Int)) rfl (congrArg (Value.int .i64) (hsub 7 (by omega))) ?_
      refine xdix 4 ?_ (hk := by omega)
      refine xEp 74 (t - 7) rfl (Nat.zero_add _) ?_
      refine xdld 5 rfl rfl ?_ (hv := hget 7 (by omega) (by omega))
      (first | refine xdar 6 ?_ | refine xdop 6 ?_)
      refine xdop 7 ?_
      (first | refine xdar 8 ?_ | refine xdop 8 ?_)
      refine xdop 9 ?_
      (first | refine xdar 10 ?_ | refine xdop 10 ?_)
      refine xE 80 (.int .i64 ((t - 16 : Nat) : Int)) rfl (congrArg (Value.int .i64) (hsub 16 (by omega))) ?_
      refine xdix 11 ?_ (hk := by omega)
      refine xEp 81 (t - 16) rfl (Nat.zero_add _) ?_
      refine xdld 12 rfl rfl ?_ (hv := hget 16 (by omega) (by omega))
      (first | refine xdar 13 ?_ | refine xdop 13 ?_)
      refine xE 83 (wV (wNext bl (wL bl t) t)) rfl (wE (by unfold wNext; rw [if_neg (by omega)]; simp only [w_add])) ?_
      refine xdix 14 ?_ (hk := by omega)
      refine xEp 84 t rfl (Nat.zero_add _) ?_
      refine xdact 15 ?_
      refine xsto rfl ?_ (hm := (putF_one (by rw [wRow_len bl t (by omega)]; omega)).trans (congrArg some (wRow_set bl t (by omega))))
      refine xst ?_
      refine xdend ?_
      repeat (first | refine xst ?_ | refine xar ?_ | refine xop ?_ | refine xlen ?_ | refine xld rfl ?_ | refine xsto rfl ?_ | refine xno ?_ | refine xt ?_ | refine xf ?_)
      exact G.fin (t + 1) ⟨by omega, by omega⟩ ⟨rfl, rfl, rfl, trivial⟩ ent_pick
    · obtain rfl : t = 64 := by omega
      obtain ⟨ws, hws⟩ : ∃ ws, wL bl 64 = ws := ⟨_, rfl⟩
      have hwl : ws.length = 64 := by rw [← hws, wL_len]
      have e64 : wRow bl 64 = wsV ws := by unfold wRow; rw [hws]; simp [zeros, z32]
      refine xrep 0 (wsV ws) rfl e64 ?_
      refine xst ?_
      refine xst ?_
      refine xst ?_
      refine xld rfl ?_ (hv := partF_all rfl (by rw [wsV_length, hwl]; rfl))
      refine xsta (cs := wsV ws) rfl (by rw [wsV_length, hwl]; rfl) (wsV_one ws) (wsV ws) (by
        rw [wsV_length, hwl]; simp [zeros_length, z32]) (by rw [wsV_length, hwl, zeros_length]; exact Nat.le_refl _) ?_
      refine xst ?_
      refine xretm [] rfl (.c .nil rfl rfl (partF_all rfl (by rw [wsV_length, hwl]; rfl))) ?_
      rw [hws]
      exact ⟨rfl, rfl⟩
end Go.Proofs.YtdalmiacjicgpaaGreatDoor

/- sha: process. -/
namespace Go.Proofs.YtdalmiacjicgpaaGreatDoor
open Go.W

def kL : List UInt32 := [0x428a2f98, 0x71374491, 0xb5c0fbcf, 0xe9b5dba5, 0x3956c25b, 0x59f111f1, 0x923f82a4, 0xab1c5ed5,
0xd807aa98, 0x12835b01, 0x243185be, 0x550c7dc3, 0x72be5d74, 0x80deb1fe, 0x9bdc06a7, 0xc19bf174,
0xe49b69c1, 0xefbe4786, 0x0fc19dc6, 0x240ca1cc, 0x2de92c6f, 0x4a7484aa, 0x5cb0a9dc, 0x76f988da,
0x983e5152, 0xa831c66d, 0xb00327c8, 0xbf597fc7, 0xc6e00bf3, 0xd5a79147, 0x06ca6351, 0x14292967,
0x27b70a85, 0x2e1b2138, 0x4d2c6dfc, 0x53380d13, 0x650a7354, 0x766a0abb, 0x81c2c92e, 0x92722c85,
0xa2bfe8a1, 0xa81a664b, 0xc24b8b70, 0xc76c51a3, 0xd192e819, 0xd6990624, 0xf40e3585, 0x106aa070,
0x19a4c116, 0x1e376c08, 0x2748774c, 0x34b0bcb5, 0x391c0cb3, 0x4ed8aa4a, 0x5b9cca4f, 0x682e6ff3,
0x748f82ee, 0x78a5636f, 0x84c87814, 0x8cc70208, 0x90befffa, 0xa4506ceb, 0xbef9a3f7, 0xc67178f2]
def kV : HProp := rdb 1 (wsV kL)
structure St where
  a : UInt32
  b : UInt32
  c : UInt32
  d : UInt32
  e : UInt32
  f : UInt32
  g : UInt32
  h : UInt32
def St.l (s : St) : List UInt32 := [s.a, s.b, s.c, s.d, s.e, s.f, s.g, s.h]
def St.t1 (s : St) (k w : UInt32) : UInt32 := s.h + (rotr s.e 6 ^^^ rotr s.e 11 ^^^ rotr s.e 25) + ((s.e &&& s.f) ||| (~~~ s.e &&& s.g)) + k + w
def St.t2 (s : St) : UInt32 := (rotr s.a 2 ^^^ rotr s.a 13 ^^^ rotr s.a 22) + ((s.a &&& s.b) ||| (s.a &&& s.c) ||| (s.b &&& s.c))
def rndS (k w : UInt32) (s : St) : St := ⟨s.t1 k w + s.t2, s.a, s.b, s.c, s.d + s.t1 k w, s.e, s.f, s.g⟩
def rnds (ws : List UInt32) (s : St) : Nat → St
  | 0 => s
  | t + 1 => rndS (gW kL t) (gW ws t) (rnds ws s t)
def addS (s u : St) : St := ⟨s.a + u.a, s.b + u.b, s.c + u.c, s.d + u.d, s.e + u.e, s.f + u.f, s.g + u.g, s.h + u.h⟩
def procS (bl : List UInt8) (s : St) : St := addS s (rnds (wL bl 64) s 64)
def mixS (s u : List UInt32) (i : Nat) : List UInt32 := (List.zipWith (· + ·) s u).take i ++ s.drop i
theorem mixS_len {s u : List UInt32} (h : s.length = u.length) (i : Nat) (hi : i ≤ s.length) : (mixS s u i).length = s.length := by
  unfold mixS; simp [h]; omega
theorem mixS_get {s u : List UInt32} (h : s.length = u.length) (i : Nat) (hi : i < s.length) : (wsV (mixS s u i))[i]? = some (wV s[i]) := by
  have hl := mixS_len h i (by omega)
  rw [wsV_get (by omega)]
  congr 2
  unfold mixS
  rw [List.getElem_append_right (by simp [h]; omega)]
  simp [h, Nat.min_eq_left (show i ≤ u.length by omega)]
theorem mixS_set {s u : List UInt32} (h : s.length = u.length) (i : Nat) (hi : i < s.length) : (wsV (mixS s u i)).set i (wV (s[i] + u[i])) = wsV (mixS s u (i + 1)) := by
  unfold mixS wsV
  rw [← List.map_set]
  congr 1
  have hz : i < (List.zipWith (· + ·) s u).length := by simp [← h]; exact hi
  have hz2 : ((List.zipWith (· + ·) s u).take i).length = i := by rw [List.length_take]; omega
  rw [List.set_append_right _ _ (by omega), hz2, Nat.sub_self, List.drop_eq_getElem_cons hi, List.set_cons_zero, List.take_succ_eq_append_getElem hz, List.append_assoc]
  simp

theorem process_spec (bl : List UInt8) (hb : bl.length = 64) (s : St) : Fun Tryz.prog 129 [.agg (wsV s.l).toArray, .agg (bsV bl).toArray] [kV] [] fun v H => v = .agg (wsV (procS bl s).l).toArray ∧ H = [] := by
  refine xenter (p := pg) Tryz.call129 Tryz.func129 fun C => ?_
  haveI := RB.of C (b := 1) (l := wsV kL) (by simp [kV])
  iterate 2 (first | refine xst ?_ | refine xar ?_ | refine xop ?_ | refine xlen ?_ | refine xld rfl ?_ | refine xsto rfl ?_ | refine xno ?_ | refine xt ?_ | refine xf ?_)
  refine xnew fun b2 => ?_
  refine xnew fun b3 => ?_
  refine xnew fun b4 => ?_
  refine xrep 1 (bsV bl) rfl rfl ?_
  iterate 3 (first | refine xst ?_ | refine xar ?_ | refine xop ?_ | refine xlen ?_ | refine xld rfl ?_ | refine xsto rfl ?_ | refine xno ?_ | refine xt ?_ | refine xf ?_)
  refine xld rfl ?_ (hv := partF_all rfl (by rw [bsV_length, hb]; rfl))
  refine xcall (expand_spec bl hb) ?_
  rintro v H ⟨rfl, rfl⟩
  refine G.app ?_
  obtain ⟨ws, hws⟩ : ∃ ws, wL bl 64 = ws := ⟨_, rfl⟩
  have hwl : ws.length = 64 := by rw [← hws, wL_len]
  refine xE 18 (.agg (wsV ws).toArray) rfl (by rw [hws]) ?_
  refine xnew fun b5 => ?_
  refine xsta (cs := wsV ws) rfl (by rw [wsV_length, hwl]; rfl) (wsV_one ws) (wsV ws) (by
    rw [wsV_length, hwl]; simp) (by rw [wsV_length, hwl]; exact Nat.le_refl _) ?_
  repeat (first | refine xst ?_ | refine xar ?_ | refine xop ?_ | refine xlen ?_ | refine xld rfl ?_ | refine xsto rfl ?_ | refine xno ?_ | refine xt ?_ | refine xf ?_)
  refine xnew fun b6 => ?_
  repeat (first | refine xst ?_ | refine xar ?_ | refine xop ?_ | refine xlen ?_ | refine xld rfl ?_ | refine xsto rfl ?_ | refine xno ?_ | refine xt ?_ | refine xf ?_)
  refine xrep 3 (List.replicate 8 (.int .u32 0)) rfl rfl ?_
  refine xrep 1 (wsV (rnds ws s 0).l) rfl rfl ?_
  refine G.loop (σ := Nat) (fun t => [(2, .pointer (some ⟨b2, 0, none⟩)), (4, .pointer (some ⟨b4, 0, none⟩)), (5, .pointer (some ⟨b5, 0, none⟩)), (6, .pointer (some ⟨b6, 0, none⟩)), (20, .int .i64 (t : Int))])
    (fun t => [pts b6 (wsV (rnds ws s t).l), pts b5 (wsV ws), pts b4 (List.replicate 8 (.int .u32 0)), pts b2 (wsV s.l)]) (fun t => t ≤ 64) (fun t => 64 - t) 0 (Nat.zero_le _) ⟨rfl, rfl, rfl, rfl, rfl, trivial⟩ ent_pick ?_
  intro t ht
  repeat (first | refine xst ?_ | refine xar ?_ | refine xop ?_ | refine xlen ?_ | refine xld rfl ?_ | refine xsto rfl ?_ | refine xno ?_ | refine xt ?_ | refine xf ?_)
  refine xd (fun h3 => ?_) (fun h3 => ?_)
  · have ht' : t < 64 := by omega
    obtain ⟨u, hu⟩ : ∃ u, rnds ws s t = u := ⟨_, rfl⟩
    have hu1 : rnds ws s (t + 1) = rndS (gW kL t) (gW ws t) u := by rw [← hu]; rfl
    refine xrep 0 (wsV u.l) rfl (by rw [hu]) ?_
    repeat (first | refine xst ?_ | refine xar ?_ | refine xop ?_ | refine xlen ?_ | refine xld rfl ?_ | refine xsto rfl ?_ | refine xno ?_ | refine xt ?_ | refine xf ?_)
    refine xdraw ?_
    refine xdix 0 ?_ (hk := by first | omega | exact Nat.le_of_ble_eq_true rfl)
    refine xdld 1 rfl rfl ?_
    refine xdix 2 ?_ (hk := by first | omega | exact Nat.le_of_ble_eq_true rfl)
    refine xdld 3 rfl rfl ?_
    refine xdix 4 ?_ (hk := by first | omega | exact Nat.le_of_ble_eq_true rfl)
    refine xdld 5 rfl rfl ?_
    refine xdix 6 ?_ (hk := by first | omega | exact Nat.le_of_ble_eq_true rfl)
    refine xdld 7 rfl rfl ?_
    refine xdix 8 ?_ (hk := by first | omega | exact Nat.le_of_ble_eq_true rfl)
    refine xdld 9 rfl rfl ?_
    refine xdix 10 ?_ (hk := by first | omega | exact Nat.le_of_ble_eq_true rfl)
    refine xdld 11 rfl rfl ?_
    refine xdop 12 ?_
    refine xdop 13 ?_
    refine xdop 14 ?_
    refine xdop 15 ?_
    refine xdop 16 ?_
    refine xdop 17 ?_
    refine xdend ?_
    repeat (first | refine xst ?_ | refine xar ?_ | refine xop ?_ | refine xlen ?_ | refine xld rfl ?_ | refine xsto rfl ?_ | refine xno ?_ | refine xt ?_ | refine xf ?_)
    have hkl : kL.length = 64 := rfl
    have hk : (wsV kL)[t]? = some (wV (gW kL t)) := by
      rw [wsV_get (by omega)]; unfold gW; rw [List.getD_eq_getElem?_getD, List.getElem?_eq_getElem (by omega)]; rfl
    have hw : (wsV ws)[t]? = some (wV (gW ws t)) := by
      rw [wsV_get (by omega)]; unfold gW; rw [List.getD_eq_getElem?_getD, List.getElem?_eq_getElem (by omega)]; rfl
    refine xdraw ?_
    refine xdix 0 ?_ (hk := by first | omega | exact Nat.le_of_ble_eq_true rfl)
    refine xdld 1 rfl rfl ?_
    refine xdop 2 ?_
    refine xdop 4 ?_
    refine xdop 7 ?_
    refine xdop 11 ?_
    refine xdop 12 ?_
    refine xdop 13 ?_
    refine xdop 14 ?_
    refine xdop 15 ?_
    refine xdop 16 ?_
    refine xdop 17 ?_
    refine xdop 18 ?_
    refine xdop 20 ?_
    refine xdix 21 ?_ (hk := by first | omega | exact Nat.le_of_ble_eq_true rfl)
    refine xEp 56 t rfl (Nat.zero_add _) ?_
    refine xdld 22 rfl rfl ?_ (hv := partF_one rfl hk)
    refine xdop 24 ?_
    refine xdix 25 ?_ (hk := by first | omega | exact Nat.le_of_ble_eq_true rfl)
    refine xEp 60 t rfl (Nat.zero_add _) ?_
    refine xdld 26 rfl rfl ?_ (hv := partF_one rfl hw)
    refine xdact 3 ?_
    refine xcall (rotate_spec u.e 6 (by omega) (by omega)) ?_
    rintro v H ⟨rfl, rfl⟩
    refine G.app ?_
    refine xst ?_
    refine xdact 5 ?_
    refine xcall (rotate_spec u.e 11 (by omega) (by omega)) ?_
    rintro v H ⟨rfl, rfl⟩
    refine G.app ?_
    refine xst ?_
    refine xdop 6 ?_
    refine xdact 8 ?_
    refine xcall (rotate_spec u.e 25 (by omega) (by omega)) ?_
    rintro v H ⟨rfl, rfl⟩
    refine G.app ?_
    refine xst ?_
    refine xdop 9 ?_
    (first | refine xdar 10 ?_ | refine xdop 10 ?_)
    (first | refine xdar 19 ?_ | refine xdop 19 ?_)
    (first | refine xdar 23 ?_ | refine xdop 23 ?_)
    (first | refine xdar 27 ?_ | refine xdop 27 ?_)
    refine xE 62 (wV (u.t1 (gW kL t) (gW ws t))) rfl (wE (by simp only [w_add, w_xor, w_and, w_or, w_not]; rfl)) ?_
    refine xdop 28 ?_
    refine xdend ?_
    repeat (first | refine xst ?_ | refine xar ?_ | refine xop ?_ | refine xlen ?_ | refine xld rfl ?_ | refine xsto rfl ?_ | refine xno ?_ | refine xt ?_ | refine xf ?_)
    refine xcall (rotate_spec u.a 2 (by omega) (by omega)) ?_
    rintro v H ⟨rfl, rfl⟩
    refine G.app ?_
    repeat (first | refine xst ?_ | refine xar ?_ | refine xop ?_ | refine xlen ?_ | refine xld rfl ?_ | refine xsto rfl ?_ | refine xno ?_ | refine xt ?_ | refine xf ?_)
    refine xcall (rotate_spec u.a 13 (by omega) (by omega)) ?_
    rintro v H ⟨rfl, rfl⟩
    refine G.app ?_
    repeat (first | refine xst ?_ | refine xar ?_ | refine xop ?_ | refine xlen ?_ | refine xld rfl ?_ | refine xsto rfl ?_ | refine xno ?_ | refine xt ?_ | refine xf ?_)
    refine xcall (rotate_spec u.a 22 (by omega) (by omega)) ?_
    rintro v H ⟨rfl, rfl⟩
    refine G.app ?_
    repeat (refine xnot 15 ?_; first | refine xst ?_ | refine xar ?_ | refine xop ?_ | refine xlen ?_ | refine xld rfl ?_ | refine xsto rfl ?_ | refine xno ?_ | refine xt ?_ | refine xf ?_)
    refine xE 15 (wV u.t2) rfl (wE (by simp only [w_add, w_xor, w_and, w_or]; rfl)) ?_
    repeat (first | refine xst ?_ | refine xar ?_ | refine xop ?_ | refine xlen ?_ | refine xld rfl ?_ | refine xsto rfl ?_ | refine xno ?_ | refine xt ?_ | refine xf ?_)
    refine xE 85 (wV (u.t1 (gW kL t) (gW ws t) + u.t2)) rfl (wE (w_add _ _)) ?_
    refine xix ?_ (hk := Nat.le_of_ble_eq_true rfl)
    repeat (refine xnot 92 ?_; first | refine xst ?_ | refine xar ?_ | refine xop ?_ | refine xlen ?_ | refine xld rfl ?_ | refine xsto rfl ?_ | refine xno ?_ | refine xt ?_ | refine xf ?_)
    refine xE 92 (wV (u.d + u.t1 (gW kL t) (gW ws t))) rfl (wE (w_add _ _)) ?_
    repeat (first | refine xst ?_ | refine xar ?_ | refine xop ?_ | refine xlen ?_ | refine xld rfl ?_ | refine xsto rfl ?_ | refine xno ?_ | refine xt ?_ | refine xf ?_)
    refine xrep 0 (wsV (rnds ws s (t + 1)).l) rfl (by rw [hu1]; rfl) ?_
    exact G.fin (t + 1) ⟨by omega, by omega⟩ ⟨rfl, rfl, rfl, rfl, rfl, trivial⟩ ent_pick
  · obtain rfl : t = 64 := by omega
    obtain ⟨u, hu⟩ : ∃ u, rnds ws s 64 = u := ⟨_, rfl⟩
    refine xrep 0 (wsV u.l) rfl (by rw [hu]) ?_
    repeat (first | refine xst ?_ | refine xar ?_ | refine xop ?_ | refine xlen ?_ | refine xld rfl ?_ | refine xsto rfl ?_ | refine xno ?_ | refine xt ?_ | refine xf ?_)
    have hlen : s.l.length = u.l.length := rfl
    have hs8 : s.l.length = 8 := rfl
    refine xrep 3 (wsV (mixS s.l u.l 0)) rfl rfl ?_
    refine G.loop (σ := Nat) (fun t => [(2, .pointer (some ⟨b2, 0, none⟩)), (4, .pointer (some ⟨b4, 0, none⟩)), (6, .pointer (some ⟨b6, 0, none⟩)), (98, .int .i64 (t : Int))])
      (fun t => [pts b2 (wsV (mixS s.l u.l t)), pts b6 (wsV u.l), pts b4 (List.replicate 8 (.int .u32 0))]) (fun t => t ≤ 8) (fun t => 8 - t) 0 (Nat.zero_le _) ⟨rfl, rfl, rfl, rfl, trivial⟩ ent_pick ?_
    intro t ht
    repeat (first | refine xst ?_ | refine xar ?_ | refine xop ?_ | refine xlen ?_ | refine xld rfl ?_ | refine xsto rfl ?_ | refine xno ?_ | refine xt ?_ | refine xf ?_)
    refine xd (fun h5 => ?_) (fun h5 => ?_)
    · have ht8 : t < 8 := by omega
      repeat (first | refine xst ?_ | refine xar ?_ | refine xop ?_ | refine xlen ?_ | refine xld rfl ?_ | refine xsto rfl ?_ | refine xno ?_ | refine xt ?_ | refine xf ?_)
      have e1 := mixS_get hlen t (by omega)
      have e2 : (wsV u.l)[t]? = some (wV (u.l[t]'(by omega))) := wsV_get (by omega)
      refine xdraw ?_
      refine xdop 0 ?_
      refine xdix 1 ?_ (hk := by first | omega | exact Nat.le_of_ble_eq_true rfl)
      refine xEp 102 t rfl (Nat.zero_add _) ?_
      refine xdld 2 rfl rfl ?_ (hv := partF_one rfl e1)
      refine xdop 3 ?_
      refine xdix 4 ?_ (hk := by first | omega | exact Nat.le_of_ble_eq_true rfl)
      refine xEp 105 t rfl (Nat.zero_add _) ?_
      refine xdld 5 rfl rfl ?_ (hv := partF_one rfl e2)
      (first | refine xdar 6 ?_ | refine xdop 6 ?_)
      refine xE 107 (wV (s.l[t]'(by omega) + u.l[t]'(by omega))) rfl (wE (w_add _ _)) ?_
      refine xdix 7 ?_ (hk := by first | omega | exact Nat.le_of_ble_eq_true rfl)
      refine xEp 108 t rfl (Nat.zero_add _) ?_
      refine xdact 8 ?_
      refine xsto rfl ?_ (hm := (putF_one (by rw [wsV_length, mixS_len hlen t (by omega)]; omega)).trans (congrArg some (mixS_set hlen t (by omega))))
      refine xst ?_
      refine xdend ?_
      repeat (first | refine xst ?_ | refine xar ?_ | refine xop ?_ | refine xlen ?_ | refine xld rfl ?_ | refine xsto rfl ?_ | refine xno ?_ | refine xt ?_ | refine xf ?_)
      exact G.fin (t + 1) ⟨by omega, by omega⟩ ⟨rfl, rfl, rfl, rfl, trivial⟩ ent_pick
    · obtain rfl : t = 8 := by omega
      have e8 : mixS s.l u.l 8 = (procS bl s).l := by
        unfold procS; rw [hws, hu]; rfl
      refine xrep 0 (wsV (procS bl s).l) rfl (by rw [e8]) ?_
      repeat (first | refine xst ?_ | refine xar ?_ | refine xop ?_ | refine xlen ?_ | refine xld rfl ?_ | refine xsto rfl ?_ | refine xno ?_ | refine xt ?_ | refine xf ?_)
      refine xretm [] rfl (.c .nil rfl rfl (partF_all rfl rfl)) ?_
      exact ⟨rfl, rfl⟩
end Go.Proofs.YtdalmiacjicgpaaGreatDoor
