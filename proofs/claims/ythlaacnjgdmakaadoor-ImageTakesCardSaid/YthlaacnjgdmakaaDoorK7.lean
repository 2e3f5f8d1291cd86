/- Part of the proof: LTa, LTb, LTc, LIa, LIb, LIc, LJo -/
import Derived.Test.YthlaacnjgdmakaaDoorK6
import Derived.Test.YthlaacnjgdmakaaDoorK3
import Derived.Test.YthlaacnjgdmakaaDoorK2
/- The document's answer, layer 4: the words and blocks of the digest. -/
namespace Go.Proofs.YthlaacnjgdmakaaDoor
open Go.W

theorem turn_spec (x : UInt32) (n : Nat) (h2 : n ≤ 32) : Fun Tryd.prog 97 [wV x, .int .u64 (n : Int)] [] [] fun v H => v = wV (rotr x n) ∧ H = [] := by
  have e10 : IntKind.u64.wrap (32 - (n : Int)) = ((32 - n : Nat) : Int) := by
    rw [show (32 - (n : Int)) = ((32 - n : Nat) : Int) by omega]; exact u64_wrap (by omega)
  refine xenter (p := pg) Tryd.call97 Tryd.func97 fun C => ?_
  repeat (refine xnot 7 ?_; first | refine xst ?_ | refine xar ?_ | refine xop ?_ | refine xlen ?_ | refine xld rfl ?_ | refine xsto rfl ?_ | refine xno ?_ | refine xt ?_ | refine xf ?_)
  refine xE 7 (wV (wShr x n)) rfl (congrArg (Value.int .u32) (w_shr x n h2)) ?_
  repeat (refine xnot 10 ?_; first | refine xst ?_ | refine xar ?_ | refine xop ?_ | refine xlen ?_ | refine xld rfl ?_ | refine xsto rfl ?_ | refine xno ?_ | refine xt ?_ | refine xf ?_)
  refine xE 10 (.int .u64 ((32 - n : Nat) : Int)) rfl (congrArg (Value.int .u64) e10) ?_
  repeat (refine xnot 11 ?_; first | refine xst ?_ | refine xar ?_ | refine xop ?_ | refine xlen ?_ | refine xld rfl ?_ | refine xsto rfl ?_ | refine xno ?_ | refine xt ?_ | refine xf ?_)
  refine xE 11 (wV (wShl x (32 - n))) rfl (congrArg (Value.int .u32) (w_shl x (32 - n) (by omega))) ?_
  repeat (refine xnot 12 ?_; first | refine xst ?_ | refine xar ?_ | refine xop ?_ | refine xlen ?_ | refine xld rfl ?_ | refine xsto rfl ?_ | refine xno ?_ | refine xt ?_ | refine xf ?_)
  refine xE 12 (wV (rotr x n)) rfl (congrArg (Value.int .u32) ((w_or _ _).trans (by unfold rotr; rw [UInt32.or_comm]))) ?_
  repeat (first | refine xst ?_ | refine xar ?_ | refine xop ?_ | refine xlen ?_ | refine xld rfl ?_ | refine xsto rfl ?_ | refine xno ?_ | refine xt ?_ | refine xf ?_)
  exact xret [] ⟨rfl, rfl⟩

theorem keys_spec : Fun Tryd.prog 96 [] [] [] fun v H => ∃ b : Nat, v = .slice (some ⟨b, 0, none⟩) 64 64 ∧ H = [sl 1 (some ⟨b, 0, none⟩) 64 64 (wsV kL)] := by
  refine xenter (p := pg) Tryd.call96 Tryd.func96 fun C => ?_
  repeat (first | refine xst ?_ | refine xar ?_ | refine xop ?_ | refine xlen ?_ | refine xld rfl ?_ | refine xsto rfl ?_ | refine xno ?_ | refine xt ?_ | refine xf ?_)
  refine xbsl fun b => ?_
  refine xslc 0 1 64 (wsV kL) rfl rfl rfl ?_
  repeat (first | refine xst ?_ | refine xar ?_ | refine xop ?_ | refine xlen ?_ | refine xld rfl ?_ | refine xsto rfl ?_ | refine xno ?_ | refine xt ?_ | refine xf ?_)
  exact xretp [0] ⟨b, rfl, rfl⟩

theorem mul256 (x : UInt32) : IntKind.u32.wrap ((x.toNat : Int) * 256) = ((wShl x 8).toNat : Int) := by
  rw [← w_shl x 8 (by omega)]; rfl
/-- Four bytes, one behind the other. -/
def gather (a b c d : UInt8) : UInt32 := wShl (wShl (wShl (wShl 0 8 + w8 a) 8 + w8 b) 8 + w8 c) 8 + w8 d
theorem w8_lt (a : UInt8) : (w8 a).toNat = a.toNat := by
  unfold w8
  have := a.toNat_lt
  simp only [UInt32.toNat_ofNat']
  omega
theorem wShl_toNat (x : UInt32) (n : Nat) : (wShl x n).toNat = x.toNat * 2 ^ n % 4294967296 := by
  unfold wShl
  simp only [UInt32.toNat_ofNat']
theorem or_add {a b m : Nat} (i : Nat) (hm : m = 2 ^ i) (h : b < m) : a * m ||| b = a * m + b := by
  subst hm
  have := Nat.shiftLeft_add_eq_or_of_lt h a
  rw [Nat.shiftLeft_eq] at this
  exact this.symm
set_option maxRecDepth 20000 in
theorem gather_nat {a b c d : Nat} (hb : b < 256) (hc : c < 256) (hd : d < 256) : a * 16777216 ||| b * 65536 ||| c * 256 ||| d = a * 16777216 + b * 65536 + c * 256 + d := by
  have h1 : b * 65536 < 16777216 := by omega
  have h2 : c * 256 < 65536 := by omega
  rw [or_add (a := a) 24 (by decide) h1]
  have e1 : a * 16777216 + b * 65536 = (a * 256 + b) * 65536 := by rw [Nat.add_mul, Nat.mul_assoc]
  rw [e1, or_add (a := a * 256 + b) 16 (by decide) h2]
  have e2 : (a * 256 + b) * 65536 + c * 256 = ((a * 256 + b) * 256 + c) * 256 := by rw [Nat.add_mul ((a * 256 + b) * 256), Nat.mul_assoc (a * 256 + b)]
  rw [e2, or_add (a := (a * 256 + b) * 256 + c) 8 (by decide) hd]
set_option maxRecDepth 100000 in
theorem sh_add {x y : Nat} (h : x < 16777216) (hy : y < 256) : (x * 256 % 4294967296 + y) % 4294967296 = x * 256 + y := by
  have h1 : x * 256 < 4294967296 := by omega
  rw [Nat.mod_eq_of_lt h1]
  have h2 : x * 256 + y < 4294967296 := by omega
  rw [Nat.mod_eq_of_lt h2]
set_option maxRecDepth 100000 in
theorem gather_eq (a b c d : UInt8) : gather a b c d = wOf a b c d := by
  have ha := a.toNat_lt
  have hb := b.toNat_lt
  have hc := c.toNat_lt
  have hd := d.toNat_lt
  apply UInt32.toNat_inj.1
  unfold gather wOf
  simp only [UInt32.toNat_or, UInt32.toNat_add, wShl_toNat, w8_lt, UInt32.toNat_zero, Nat.zero_mul, Nat.zero_mod, Nat.zero_add, Nat.reducePow]
  have g1 : a.toNat < 4294967296 := by omega
  have g2 : a.toNat * 16777216 < 4294967296 := Nat.mul_lt_mul_of_pos_right ha (by decide : 0 < 16777216)
  have g3 : b.toNat * 65536 < 4294967296 := Nat.lt_trans (Nat.mul_lt_mul_of_pos_right hb (by decide : 0 < 65536)) (by decide)
  have g4 : c.toNat * 256 < 4294967296 := Nat.lt_trans (Nat.mul_lt_mul_of_pos_right hc (by decide : 0 < 256)) (by decide)
  rw [Nat.mod_eq_of_lt g1, sh_add (x := a.toNat) (y := b.toNat) (by omega) (by omega), sh_add (x := a.toNat * 256 + b.toNat) (y := c.toNat) (by omega) (by omega), sh_add (x := (a.toNat * 256 + b.toNat) * 256 + c.toNat) (y := d.toNat) (by omega) (by omega),
    Nat.mod_eq_of_lt g2, Nat.mod_eq_of_lt g3, Nat.mod_eq_of_lt g4, gather_nat (by omega) (by omega) (by omega)]
  omega

/-- What four bytes are, so far. -/
def gatherN (bl : List UInt8) (t : Nat) : Nat → UInt32
  | 0 => 0
  | k + 1 => wShl (gatherN bl t k) 8 + w8 (gB bl (4 * t + k))
theorem gatherN4 (bl : List UInt8) (t : Nat) (h : t < 16) (l : List UInt32) : gatherN bl t 4 = wNext bl l t := by
  unfold wNext
  rw [if_pos h, ← gather_eq]
  rfl

set_option maxHeartbeats 800000 in
theorem words_spec (a : Option Addr) (cap : Nat) (bl : List UInt8) (hb : bl.length = 64) : Fun Tryd.prog 95 [.slice a 64 cap] [slR 1 a 64 cap (bsV bl)] [] fun v H => ∃ a' cap', v = .slice a' 64 cap' ∧ H = [sl 1 a' 64 cap' (wsV (wL bl 64))] := by
  refine xenter (p := pg) Tryd.call95 Tryd.func95 fun C => ?_
  have hr := RP.slR (RP.of C (X := slR 1 a 64 cap (bsV bl)) (by simp))
  obtain ⟨b, off, rfl, hsb⟩ := hr.some (by omega)
  repeat (first | refine xst ?_ | refine xar ?_ | refine xop ?_ | refine xlen ?_ | refine xld rfl ?_ | refine xsto rfl ?_ | refine xno ?_ | refine xt ?_ | refine xf ?_)
  refine G.sln 1 ?_
  refine G.loop (σ := Nat × Option Addr × Nat) (fun s => [(0, .slice (some ⟨b, off, none⟩) 64 cap), (3, .slice s.2.1 s.1 s.2.2), (4, .int .i64 (s.1 : Int))]) (fun s => [sl 1 s.2.1 s.1 s.2.2 (wsV (wL bl s.1))]) (fun s => s.1 ≤ 16) (fun s => 16 - s.1) (0, none, 0) (Nat.zero_le _) ⟨rfl, rfl, rfl, trivial⟩ (Ent.refl _) ?_
  rintro ⟨t, a', cap'⟩ ht
  have ht : t ≤ 16 := ht
  show G C _ [(0, .slice (some ⟨b, off, none⟩) 64 cap), (3, .slice a' t cap'), (4, .int .i64 (t : Int))] [sl 1 a' t cap' (wsV (wL bl t))]
  repeat (first | refine xst ?_ | refine xar ?_ | refine xop ?_ | refine xlen ?_ | refine xld rfl ?_ | refine xsto rfl ?_ | refine xno ?_ | refine xt ?_ | refine xf ?_)
  refine xd (q := (t : Int) < 16) (fun h1 => ?_) (fun h1 => ?_)
  · have h1 : t < 16 := by omega
    repeat (first | refine xst ?_ | refine xar ?_ | refine xop ?_ | refine xlen ?_ | refine xld rfl ?_ | refine xsto rfl ?_ | refine xno ?_ | refine xt ?_ | refine xf ?_)
    refine xE 5 (wV 0) rfl rfl ?_
    refine G.loop (σ := Nat) (fun k => [(0, .slice (some ⟨b, off, none⟩) 64 cap), (3, .slice a' t cap'), (4, .int .i64 (t : Int)), (5, wV (gatherN bl t k)), (6, .int .i64 (k : Int))]) (fun _ => [sl 1 a' t cap' (wsV (wL bl t))]) (fun k => k ≤ 4) (fun k => 4 - k) 0 (Nat.zero_le _) ⟨rfl, rfl, rfl, rfl, rfl, trivial⟩ (Ent.refl _) ?_
    intro k hk
    have hk : k ≤ 4 := hk
    repeat (first | refine xst ?_ | refine xar ?_ | refine xop ?_ | refine xlen ?_ | refine xld rfl ?_ | refine xsto rfl ?_ | refine xno ?_ | refine xt ?_ | refine xf ?_)
    refine xd (q := (k : Int) < 4) (fun h2 => ?_) (fun h2 => ?_)
    · have h2 : k < 4 := by omega
      have h3 : 4 * t + k < bl.length := by omega
      repeat (refine xnot 28 ?_; first | refine xst ?_ | refine xar ?_ | refine xop ?_ | refine xlen ?_ | refine xld rfl ?_ | refine xsto rfl ?_ | refine xno ?_ | refine xt ?_ | refine xf ?_)
      refine xE 19 (wV (wShl (gatherN bl t k) 8)) rfl (congrArg (Value.int .u32) (mul256 _)) ?_
      refine xE 24 (.int .i64 ((4 * t + k : Nat) : Int)) rfl (congrArg (Value.int .i64) (by omega)) ?_
      repeat (first | refine xst ?_ | refine xar ?_ | refine xop ?_ | refine xlen ?_ | refine xld rfl ?_ | refine xsto rfl ?_ | refine xno ?_ | refine xt ?_ | refine xf ?_)
      refine xix ?_ (hk := by omega)
      refine xldl rfl (4 * t + k) (gB_get h3) ?_ (hj := offAt_one _ _)
      repeat (refine xnot 27 ?_; first | refine xst ?_ | refine xar ?_ | refine xop ?_ | refine xlen ?_ | refine xld rfl ?_ | refine xsto rfl ?_ | refine xno ?_ | refine xt ?_ | refine xf ?_)
      refine xE 27 (wV (w8 (gB bl (4 * t + k)))) rfl (congrArg (Value.int .u32) (w_u8 _)) ?_
      repeat (refine xnot 28 ?_; first | refine xst ?_ | refine xar ?_ | refine xop ?_ | refine xlen ?_ | refine xld rfl ?_ | refine xsto rfl ?_ | refine xno ?_ | refine xt ?_ | refine xf ?_)
      refine xE 28 (wV (gatherN bl t (k + 1))) rfl (congrArg (Value.int .u32) (w_add _ _)) ?_
      repeat (first | refine xst ?_ | refine xar ?_ | refine xop ?_ | refine xlen ?_ | refine xld rfl ?_ | refine xsto rfl ?_ | refine xno ?_ | refine xt ?_ | refine xf ?_)
      exact G.fin (k + 1) ⟨by show k + 1 ≤ 4; omega, by show 4 - (k + 1) < 4 - k; omega⟩ ⟨rfl, rfl, rfl, rfl, rfl, trivial⟩ (Ent.refl _)
    · obtain rfl : k = 4 := by omega
      refine xE 5 (wV (wNext bl (wL bl t) t)) rfl (congrArg wV (gatherN4 bl t h1 _)) ?_
      repeat (first | refine xst ?_ | refine xar ?_ | refine xop ?_ | refine xlen ?_ | refine xld rfl ?_ | refine xsto rfl ?_ | refine xno ?_ | refine xt ?_ | refine xf ?_)
      refine xbsl fun b3 => ?_
      repeat (first | refine xst ?_ | refine xar ?_ | refine xop ?_ | refine xlen ?_ | refine xld rfl ?_ | refine xsto rfl ?_ | refine xno ?_ | refine xt ?_ | refine xf ?_)
      refine xapp (wsV (wL bl t)) rfl (SrcOk.blk (ys := wsV [wNext bl (wL bl t) t]) rfl (by simp) (wsV_one _)) (by omega) fun a'' cap'' => ?_
      repeat (first | refine xst ?_ | refine xar ?_ | refine xop ?_ | refine xlen ?_ | refine xld rfl ?_ | refine xsto rfl ?_ | refine xno ?_ | refine xt ?_ | refine xf ?_)
      refine G.fin (t + 1, a'', cap'') ⟨by show t + 1 ≤ 16; omega, by show 16 - (t + 1) < 16 - t; omega⟩ ⟨rfl, rfl, rfl, trivial⟩ ?_
      show Ent _ [sl 1 a'' (t + 1) cap'' (wsV (wL bl (t + 1)))]
      rw [wL, wsV_append]
      exact ent_pick
  · obtain rfl : t = 16 := by omega
    repeat (first | refine xst ?_ | refine xar ?_ | refine xop ?_ | refine xlen ?_ | refine xld rfl ?_ | refine xsto rfl ?_ | refine xno ?_ | refine xt ?_ | refine xf ?_)
    refine G.loop (σ := Nat × Option Addr × Nat) (fun s => [(3, .slice s.2.1 s.1 s.2.2), (7, .int .i64 (s.1 : Int))]) (fun s => [sl 1 s.2.1 s.1 s.2.2 (wsV (wL bl s.1))]) (fun s => 16 ≤ s.1 ∧ s.1 ≤ 64) (fun s => 64 - s.1) (16, a', cap') ⟨Nat.le_refl 16, by show 16 ≤ 64; omega⟩ ⟨rfl, rfl, trivial⟩ (Ent.refl _) ?_
    rintro ⟨t, a', cap'⟩ ⟨ht0, ht⟩
    simp only at ht0 ht
    show G C _ [(3, .slice a' t cap'), (7, .int .i64 (t : Int))] [sl 1 a' t cap' (wsV (wL bl t))]
    refine xslf 0 rfl fun _ hc hs => ?_
    obtain ⟨wb, wo, rfl⟩ := hs (by omega)
    have hwl : (wL bl t).length = t := wL_len bl t
    have hget : ∀ i, i < t → (wsV (wL bl t))[i]? = some (wV (gW (wL bl t) i)) := fun i hi => by
      rw [wsV_get (by omega)]; unfold gW; rw [List.getD_eq_getElem?_getD, List.getElem?_eq_getElem (by omega)]; rfl
    repeat (first | refine xst ?_ | refine xar ?_ | refine xop ?_ | refine xlen ?_ | refine xld rfl ?_ | refine xsto rfl ?_ | refine xno ?_ | refine xt ?_ | refine xf ?_)
    refine xd (q := (t : Int) < 64) (fun h1 => ?_) (fun h1 => ?_)
    · have h1 : t < 64 := by omega
      repeat (first | refine xst ?_ | refine xar ?_ | refine xop ?_ | refine xlen ?_ | refine xld rfl ?_ | refine xsto rfl ?_ | refine xno ?_ | refine xt ?_ | refine xf ?_)
      refine xdraw ?_
      refine xdop 0 ?_
      refine xdop 1 ?_
      (first | refine xdar 2 ?_ | refine xdop 2 ?_)
      refine xE 39 (.int .i64 ((t - 15 : Nat) : Int)) rfl (congrArg (Value.int .i64) (by omega)) ?_
      refine xdix 3 ?_ (hk := by first | omega | exact Nat.le_of_ble_eq_true rfl)
      refine xdldl 4 rfl rfl (t - 15) (hget (t - 15) (by omega)) (by omega) ?_ (hj := offAt_one _ _)
      refine xdop 6 ?_
      refine xdop 7 ?_
      (first | refine xdar 8 ?_ | refine xdop 8 ?_)
      refine xE 45 (.int .i64 ((t - 15 : Nat) : Int)) rfl (congrArg (Value.int .i64) (by omega)) ?_
      refine xdix 9 ?_ (hk := by first | omega | exact Nat.le_of_ble_eq_true rfl)
      refine xdldl 10 rfl rfl (t - 15) (hget (t - 15) (by omega)) (by omega) ?_ (hj := offAt_one _ _)
      refine xdop 13 ?_
      refine xdop 14 ?_
      (first | refine xdar 15 ?_ | refine xdop 15 ?_)
      refine xE 52 (.int .i64 ((t - 15 : Nat) : Int)) rfl (congrArg (Value.int .i64) (by omega)) ?_
      refine xdix 16 ?_ (hk := by first | omega | exact Nat.le_of_ble_eq_true rfl)
      refine xdldl 17 rfl rfl (t - 15) (hget (t - 15) (by omega)) (by omega) ?_ (hj := offAt_one _ _)
      refine xdop 18 ?_
      refine xE 55 (wV (wShr (gW (wL bl t) (t - 15)) 3)) rfl (congrArg (Value.int .u32) (w_shr _ 3 (by omega))) ?_
      refine xdact 5 ?_
      refine xcall (turn_spec (gW (wL bl t) (t - 15)) 7 (by omega)) ?_
      rintro v H ⟨rfl, rfl⟩
      refine G.app ?_
      refine xst ?_
      refine xdact 11 ?_
      refine xcall (turn_spec (gW (wL bl t) (t - 15)) 18 (by omega)) ?_
      rintro v H ⟨rfl, rfl⟩
      refine G.app ?_
      refine xst ?_
      refine xdop 12 ?_
      refine xE 49 (wV (rotr (gW (wL bl t) (t - 15)) 7 ^^^ rotr (gW (wL bl t) (t - 15)) 18)) rfl (congrArg (Value.int .u32) (w_xor _ _)) ?_
      refine xdop 19 ?_
      refine xE 56 (wV (sg0 (gW (wL bl t) (t - 15)))) rfl (congrArg (Value.int .u32) (w_xor _ _)) ?_
      refine xdop 20 ?_
      refine xdend ?_
      repeat (first | refine xst ?_ | refine xar ?_ | refine xop ?_ | refine xlen ?_ | refine xld rfl ?_ | refine xsto rfl ?_ | refine xno ?_ | refine xt ?_ | refine xf ?_)
      refine xdraw ?_
      refine xdop 0 ?_
      refine xdop 1 ?_
      (first | refine xdar 2 ?_ | refine xdop 2 ?_)
      refine xE 59 (.int .i64 ((t - 2 : Nat) : Int)) rfl (congrArg (Value.int .i64) (by omega)) ?_
      refine xdix 3 ?_ (hk := by first | omega | exact Nat.le_of_ble_eq_true rfl)
      refine xdldl 4 rfl rfl (t - 2) (hget (t - 2) (by omega)) (by omega) ?_ (hj := offAt_one _ _)
      refine xdop 6 ?_
      refine xdop 7 ?_
      (first | refine xdar 8 ?_ | refine xdop 8 ?_)
      refine xE 65 (.int .i64 ((t - 2 : Nat) : Int)) rfl (congrArg (Value.int .i64) (by omega)) ?_
      refine xdix 9 ?_ (hk := by first | omega | exact Nat.le_of_ble_eq_true rfl)
      refine xdldl 10 rfl rfl (t - 2) (hget (t - 2) (by omega)) (by omega) ?_ (hj := offAt_one _ _)
      refine xdop 13 ?_
      refine xdop 14 ?_
      (first | refine xdar 15 ?_ | refine xdop 15 ?_)
      refine xE 72 (.int .i64 ((t - 2 : Nat) : Int)) rfl (congrArg (Value.int .i64) (by omega)) ?_
      refine xdix 16 ?_ (hk := by first | omega | exact Nat.le_of_ble_eq_true rfl)
      refine xdldl 17 rfl rfl (t - 2) (hget (t - 2) (by omega)) (by omega) ?_ (hj := offAt_one _ _)
      refine xdop 18 ?_
      refine xE 75 (wV (wShr (gW (wL bl t) (t - 2)) 10)) rfl (congrArg (Value.int .u32) (w_shr _ 10 (by omega))) ?_
      refine xdact 5 ?_
      refine xcall (turn_spec (gW (wL bl t) (t - 2)) 17 (by omega)) ?_
      rintro v H ⟨rfl, rfl⟩
      refine G.app ?_
      refine xst ?_
      refine xdact 11 ?_
      refine xcall (turn_spec (gW (wL bl t) (t - 2)) 19 (by omega)) ?_
      rintro v H ⟨rfl, rfl⟩
      refine G.app ?_
      refine xst ?_
      refine xdop 12 ?_
      refine xE 69 (wV (rotr (gW (wL bl t) (t - 2)) 17 ^^^ rotr (gW (wL bl t) (t - 2)) 19)) rfl (congrArg (Value.int .u32) (w_xor _ _)) ?_
      refine xdop 19 ?_
      refine xE 76 (wV (sg1 (gW (wL bl t) (t - 2)))) rfl (congrArg (Value.int .u32) (w_xor _ _)) ?_
      refine xdop 20 ?_
      refine xdend ?_
      repeat (first | refine xst ?_ | refine xar ?_ | refine xop ?_ | refine xlen ?_ | refine xld rfl ?_ | refine xsto rfl ?_ | refine xno ?_ | refine xt ?_ | refine xf ?_)
      refine xdraw ?_
      refine xdop 0 ?_
      refine xdop 1 ?_
      refine xdop 2 ?_
      refine xdop 3 ?_
      (first | refine xdar 4 ?_ | refine xdop 4 ?_)
      refine xE 81 (.int .i64 ((t - 7 : Nat) : Int)) rfl (congrArg (Value.int .i64) (by omega)) ?_
      refine xdix 5 ?_ (hk := by first | omega | exact Nat.le_of_ble_eq_true rfl)
      refine xdldl 6 rfl rfl (t - 7) (hget (t - 7) (by omega)) (by omega) ?_ (hj := offAt_one _ _)
      (first | refine xdar 7 ?_ | refine xdop 7 ?_)
      refine xE 84 (wV (sg1 (gW (wL bl t) (t - 2)) + gW (wL bl t) (t - 7))) rfl (congrArg (Value.int .u32) (w_add _ _)) ?_
      refine xdop 8 ?_
      (first | refine xdar 9 ?_ | refine xdop 9 ?_)
      refine xE 86 (wV (sg1 (gW (wL bl t) (t - 2)) + gW (wL bl t) (t - 7) + sg0 (gW (wL bl t) (t - 15)))) rfl (congrArg (Value.int .u32) (w_add _ _)) ?_
      refine xdop 10 ?_
      refine xdop 11 ?_
      (first | refine xdar 12 ?_ | refine xdop 12 ?_)
      refine xE 89 (.int .i64 ((t - 16 : Nat) : Int)) rfl (congrArg (Value.int .i64) (by omega)) ?_
      refine xdix 13 ?_ (hk := by first | omega | exact Nat.le_of_ble_eq_true rfl)
      refine xdldl 14 rfl rfl (t - 16) (hget (t - 16) (by omega)) (by omega) ?_ (hj := offAt_one _ _)
      (first | refine xdar 15 ?_ | refine xdop 15 ?_)
      refine xE 92 (wV (wNext bl (wL bl t) t)) rfl (by unfold wNext; rw [if_neg (by omega)]; exact congrArg (Value.int .u32) (w_add _ _)) ?_
      refine xdact 16 ?_
      refine xbsl fun b3 => ?_
      refine xst ?_
      refine xdact 17 ?_
      refine xapp (wsV (wL bl t)) rfl (SrcOk.blk (ys := wsV [wNext bl (wL bl t) t]) rfl (by simp) (wsV_one _)) (by omega) fun a'' cap'' => ?_
      refine xst ?_
      refine xdop 18 ?_
      refine xdend ?_
      repeat (first | refine xst ?_ | refine xar ?_ | refine xop ?_ | refine xlen ?_ | refine xld rfl ?_ | refine xsto rfl ?_ | refine xno ?_ | refine xt ?_ | refine xf ?_)
      refine G.fin (t + 1, a'', cap'') ⟨⟨by show 16 ≤ t + 1; omega, by show t + 1 ≤ 64; omega⟩, by show 64 - (t + 1) < 64 - t; omega⟩ ⟨rfl, rfl, trivial⟩ ?_
      show Ent _ [sl 1 a'' (t + 1) cap'' (wsV (wL bl (t + 1)))]
      rw [wL, wsV_append]
      exact ent_pick
    · obtain rfl : t = 64 := by omega
      repeat (first | refine xst ?_ | refine xar ?_ | refine xop ?_ | refine xlen ?_ | refine xld rfl ?_ | refine xsto rfl ?_ | refine xno ?_ | refine xt ?_ | refine xf ?_)
      exact xretp [0] ⟨_, _, rfl, rfl⟩
end Go.Proofs.YthlaacnjgdmakaaDoor

/- The document's answer, layer 4: a block is taken in. -/
namespace Go.Proofs.YthlaacnjgdmakaaDoor
open Go.W

theorem w_nsub (x : UInt32) : IntKind.u32.wrap (4294967295 - (x.toNat : Int)) = ((~~~ x).toNat : Int) := by
  have h := x.toNat_lt
  have e : (~~~ x).toNat = 4294967295 - x.toNat := by
    rw [UInt32.toNat_not]; rfl
  rw [e, wrap_in (k := .u32) ⟨by omega, by omega⟩]
  omega

def envS (u : St) : Env := [(7, wV u.a), (8, wV u.b), (9, wV u.c), (10, wV u.d), (11, wV u.e), (12, wV u.f), (13, wV u.g), (14, wV u.h)]

set_option maxHeartbeats 1000000 in
theorem block_spec (s : St) (a : Option Addr) (cap : Nat) (bl : List UInt8) (hb : bl.length = 64) : Fun Tryd.prog 74 [.agg (wsV s.l).toArray, .slice a 64 cap] [slR 1 a 64 cap (bsV bl)] []
    fun v H => v = .agg (wsV (procS bl s).l).toArray ∧ H = [] := by
  refine xenter (p := pg) Tryd.call74 Tryd.func74 fun C => ?_
  haveI hr := RP.slR (RP.of C (X := slR 1 a 64 cap (bsV bl)) (by simp))
  repeat (first | refine xst ?_ | refine xar ?_ | refine xop ?_ | refine xlen ?_ | refine xld rfl ?_ | refine xsto rfl ?_ | refine xno ?_ | refine xt ?_ | refine xf ?_)
  refine xnew fun b2 => ?_
  refine xnew fun b4 => ?_
  refine xrep 1 (wsV s.l) rfl rfl ?_
  repeat (first | refine xst ?_ | refine xar ?_ | refine xop ?_ | refine xlen ?_ | refine xld rfl ?_ | refine xsto rfl ?_ | refine xno ?_ | refine xt ?_ | refine xf ?_)
  refine xcall (words_spec a cap bl hb) ?_
  rintro v H ⟨a5, c5, rfl, rfl⟩
  refine G.app ?_
  refine xslf 0 rfl fun _ hc hs => ?_
  obtain ⟨wb, wo, rfl⟩ := hs (by omega)
  repeat (first | refine xst ?_ | refine xar ?_ | refine xop ?_ | refine xlen ?_ | refine xld rfl ?_ | refine xsto rfl ?_ | refine xno ?_ | refine xt ?_ | refine xf ?_)
  refine xcall keys_spec ?_
  rintro v H ⟨kb, rfl, rfl⟩
  refine G.app ?_
  obtain ⟨ws, hws⟩ : ∃ ws, wL bl 64 = ws := ⟨_, rfl⟩
  have hwl : ws.length = 64 := by rw [← hws, wL_len]
  refine xreH 1 (sl 1 (some ⟨wb, wo, none⟩) 64 c5 (wsV ws)) rfl (by rw [hws]) ?_
  have hgw : ∀ i, i < 64 → (wsV ws)[i]? = some (wV (gW ws i)) := fun i hi => by
    rw [wsV_get (by omega)]; unfold gW; rw [List.getD_eq_getElem?_getD, List.getElem?_eq_getElem (by omega)]; rfl
  have hgk : ∀ i, i < 64 → (wsV kL)[i]? = some (wV (gW kL i)) := fun i hi => by
    have hkl : kL.length = 64 := rfl
    rw [wsV_get (by omega)]; unfold gW; rw [List.getD_eq_getElem?_getD, List.getElem?_eq_getElem (by omega)]; rfl
  repeat (first | refine xst ?_ | refine xar ?_ | refine xop ?_ | refine xlen ?_ | refine xld rfl ?_ | refine xsto rfl ?_ | refine xno ?_ | refine xt ?_ | refine xf ?_)
  refine xdraw ?_
  refine xdix 0 ?_ (hk := by first | omega | exact Nat.le_of_ble_eq_true rfl)
  refine xdld 1 rfl rfl ?_
  refine xdix 2 ?_ (hk := by first | omega | exact Nat.le_of_ble_eq_true rfl)
  refine xdld 3 rfl rfl ?_
  refine xdix 4 ?_ (hk := by first | omega | exact Nat.le_of_ble_eq_true rfl)
  refine xdld 5 rfl rfl ?_
  refine xdix 6 ?_ (hk := by first | omega | exact Nat.le_of_ble_eq_true rfl)
  refine xdld 7 rfl rfl ?_
  refine xdix 8 ?_ (hk := by first | omega | exact Nat.le_of_ble_eq_true rfl)
  refine xdld 9 rfl rfl ?_
  refine xdix 10 ?_ (hk := by first | omega | exact Nat.le_of_ble_eq_true rfl)
  refine xdld 11 rfl rfl ?_
  refine xdix 12 ?_ (hk := by first | omega | exact Nat.le_of_ble_eq_true rfl)
  refine xdld 13 rfl rfl ?_
  refine xdix 14 ?_ (hk := by first | omega | exact Nat.le_of_ble_eq_true rfl)
  refine xdld 15 rfl rfl ?_
  refine xdop 16 ?_
  refine xdop 17 ?_
  refine xdop 18 ?_
  refine xdop 19 ?_
  refine xdop 20 ?_
  refine xdop 21 ?_
  refine xdop 22 ?_
  refine xdop 23 ?_
  refine xdend ?_
  repeat (first | refine xst ?_ | refine xar ?_ | refine xop ?_ | refine xlen ?_ | refine xld rfl ?_ | refine xsto rfl ?_ | refine xno ?_ | refine xt ?_ | refine xf ?_)
  refine G.loop (σ := Nat) (fun t => [(2, .pointer (some ⟨b2, 0, none⟩)), (4, .pointer (some ⟨b4, 0, none⟩)), (5, .slice (some ⟨wb, wo, none⟩) 64 c5), (6, .slice (some ⟨kb, 0, none⟩) 64 64), (15, .int .i64 (t : Int)),
      (7, wV (rnds ws s t).a), (8, wV (rnds ws s t).b), (9, wV (rnds ws s t).c), (10, wV (rnds ws s t).d), (11, wV (rnds ws s t).e), (12, wV (rnds ws s t).f), (13, wV (rnds ws s t).g), (14, wV (rnds ws s t).h)])
    (fun _ => [sl 1 (some ⟨wb, wo, none⟩) 64 c5 (wsV ws), sl 1 (some ⟨kb, 0, none⟩) 64 64 (wsV kL), pts b2 (wsV s.l), pts b4 [.int .u32 0, .int .u32 0, .int .u32 0, .int .u32 0, .int .u32 0, .int .u32 0, .int .u32 0, .int .u32 0]]) (fun t => t ≤ 64) (fun t => 64 - t) 0 (Nat.zero_le _) ⟨rfl, rfl, rfl, rfl, rfl, rfl, rfl, rfl, rfl, rfl, rfl, rfl, rfl, trivial⟩ (Ent.refl _) ?_
  intro t ht
  have ht : t ≤ 64 := ht
  obtain ⟨u, hu⟩ : ∃ u, rnds ws s t = u := ⟨_, rfl⟩
  show G C _ [(2, .pointer (some ⟨b2, 0, none⟩)), (4, .pointer (some ⟨b4, 0, none⟩)), (5, .slice (some ⟨wb, wo, none⟩) 64 c5), (6, .slice (some ⟨kb, 0, none⟩) 64 64), (15, .int .i64 (t : Int)),
      (7, wV (rnds ws s t).a), (8, wV (rnds ws s t).b), (9, wV (rnds ws s t).c), (10, wV (rnds ws s t).d), (11, wV (rnds ws s t).e), (12, wV (rnds ws s t).f), (13, wV (rnds ws s t).g), (14, wV (rnds ws s t).h)] _
  rw [hu]
  repeat (first | refine xst ?_ | refine xar ?_ | refine xop ?_ | refine xlen ?_ | refine xld rfl ?_ | refine xsto rfl ?_ | refine xno ?_ | refine xt ?_ | refine xf ?_)
  refine xd (q := (t : Int) < 64) (fun h1 => ?_) (fun h1 => ?_)
  · have h1 : t < 64 := by omega
    repeat (first | refine xst ?_ | refine xar ?_ | refine xop ?_ | refine xlen ?_ | refine xld rfl ?_ | refine xsto rfl ?_ | refine xno ?_ | refine xt ?_ | refine xf ?_)
    refine xdraw ?_
    refine xdop 0 ?_
    refine xdop 1 ?_
    refine xdop 3 ?_
    refine xdop 6 ?_
    refine xdop 10 ?_
    refine xdop 11 ?_
    refine xdop 12 ?_
    refine xE 53 (wV (u.e &&& u.f)) rfl (congrArg (Value.int .u32) (w_and _ _)) ?_
    refine xdop 13 ?_
    refine xdop 14 ?_
    refine xE 55 (wV (~~~ u.e)) rfl (congrArg (Value.int .u32) (w_nsub _)) ?_
    refine xdop 15 ?_
    refine xdop 16 ?_
    refine xE 57 (wV (~~~ u.e &&& u.g)) rfl (congrArg (Value.int .u32) (w_and _ _)) ?_
    refine xdop 17 ?_
    refine xE 58 (wV ((u.e &&& u.f) ||| (~~~ u.e &&& u.g))) rfl (congrArg (Value.int .u32) (w_or _ _)) ?_
    refine xdop 19 ?_
    refine xdop 20 ?_
    refine xdix 21 ?_ (hk := by first | omega | exact Nat.le_of_ble_eq_true rfl)
    refine xdldl 22 rfl rfl t (hgk t h1) (by omega) ?_ (hj := offAt_one _ _)
    refine xdop 24 ?_
    refine xdop 25 ?_
    refine xdix 26 ?_ (hk := by first | omega | exact Nat.le_of_ble_eq_true rfl)
    refine xdldl 27 rfl rfl t (hgw t h1) (by omega) ?_ (hj := offAt_one _ _)
    refine xdact 2 ?_
    refine xcall (turn_spec u.e 6 (by omega)) ?_
    rintro v H ⟨rfl, rfl⟩
    refine G.app ?_
    refine xst ?_
    refine xdact 4 ?_
    refine xcall (turn_spec u.e 11 (by omega)) ?_
    rintro v H ⟨rfl, rfl⟩
    refine G.app ?_
    refine xst ?_
    refine xdop 5 ?_
    refine xE 46 (wV (rotr u.e 6 ^^^ rotr u.e 11)) rfl (congrArg (Value.int .u32) (w_xor _ _)) ?_
    refine xdact 7 ?_
    refine xcall (turn_spec u.e 25 (by omega)) ?_
    rintro v H ⟨rfl, rfl⟩
    refine G.app ?_
    refine xst ?_
    refine xdop 8 ?_
    refine xE 49 (wV (rotr u.e 6 ^^^ rotr u.e 11 ^^^ rotr u.e 25)) rfl (congrArg (Value.int .u32) (w_xor _ _)) ?_
    refine xdop 9 ?_
    refine xE 50 (wV (u.h + (rotr u.e 6 ^^^ rotr u.e 11 ^^^ rotr u.e 25))) rfl (congrArg (Value.int .u32) (w_add _ _)) ?_
    refine xdop 18 ?_
    refine xE 59 (wV (u.h + (rotr u.e 6 ^^^ rotr u.e 11 ^^^ rotr u.e 25) + ((u.e &&& u.f) ||| (~~~ u.e &&& u.g)))) rfl (congrArg (Value.int .u32) (w_add _ _)) ?_
    refine xdop 23 ?_
    refine xE 64 (wV (u.h + (rotr u.e 6 ^^^ rotr u.e 11 ^^^ rotr u.e 25) + ((u.e &&& u.f) ||| (~~~ u.e &&& u.g)) + gW kL t)) rfl (congrArg (Value.int .u32) (w_add _ _)) ?_
    refine xdop 28 ?_
    refine xE 69 (wV (u.t1 (gW kL t) (gW ws t))) rfl (congrArg (Value.int .u32) (w_add _ _)) ?_
    refine xdop 29 ?_
    refine xdend ?_
    repeat (first | refine xst ?_ | refine xar ?_ | refine xop ?_ | refine xlen ?_ | refine xld rfl ?_ | refine xsto rfl ?_ | refine xno ?_ | refine xt ?_ | refine xf ?_)
    refine xcall (turn_spec u.a 2 (by omega)) ?_
    rintro v H ⟨rfl, rfl⟩
    refine G.app ?_
    repeat (first | refine xst ?_ | refine xar ?_ | refine xop ?_ | refine xlen ?_ | refine xld rfl ?_ | refine xsto rfl ?_ | refine xno ?_ | refine xt ?_ | refine xf ?_)
    refine xcall (turn_spec u.a 13 (by omega)) ?_
    rintro v H ⟨rfl, rfl⟩
    refine G.app ?_
    repeat (refine xnot 74 ?_; first | refine xst ?_ | refine xar ?_ | refine xop ?_ | refine xlen ?_ | refine xld rfl ?_ | refine xsto rfl ?_ | refine xno ?_ | refine xt ?_ | refine xf ?_)
    refine xE 74 (wV (rotr u.a 2 ^^^ rotr u.a 13)) rfl (congrArg (Value.int .u32) (w_xor _ _)) ?_
    repeat (first | refine xst ?_ | refine xar ?_ | refine xop ?_ | refine xlen ?_ | refine xld rfl ?_ | refine xsto rfl ?_ | refine xno ?_ | refine xt ?_ | refine xf ?_)
    refine xcall (turn_spec u.a 22 (by omega)) ?_
    rintro v H ⟨rfl, rfl⟩
    refine G.app ?_
    repeat (refine xnot 77 ?_; first | refine xst ?_ | refine xar ?_ | refine xop ?_ | refine xlen ?_ | refine xld rfl ?_ | refine xsto rfl ?_ | refine xno ?_ | refine xt ?_ | refine xf ?_)
    refine xE 77 (wV (rotr u.a 2 ^^^ rotr u.a 13 ^^^ rotr u.a 22)) rfl (congrArg (Value.int .u32) (w_xor _ _)) ?_
    repeat (refine xnot 80 ?_; first | refine xst ?_ | refine xar ?_ | refine xop ?_ | refine xlen ?_ | refine xld rfl ?_ | refine xsto rfl ?_ | refine xno ?_ | refine xt ?_ | refine xf ?_)
    refine xE 80 (wV (u.a &&& u.b)) rfl (congrArg (Value.int .u32) (w_and _ _)) ?_
    repeat (refine xnot 83 ?_; first | refine xst ?_ | refine xar ?_ | refine xop ?_ | refine xlen ?_ | refine xld rfl ?_ | refine xsto rfl ?_ | refine xno ?_ | refine xt ?_ | refine xf ?_)
    refine xE 83 (wV (u.a &&& u.c)) rfl (congrArg (Value.int .u32) (w_and _ _)) ?_
    repeat (refine xnot 84 ?_; first | refine xst ?_ | refine xar ?_ | refine xop ?_ | refine xlen ?_ | refine xld rfl ?_ | refine xsto rfl ?_ | refine xno ?_ | refine xt ?_ | refine xf ?_)
    refine xE 84 (wV ((u.a &&& u.b) ||| (u.a &&& u.c))) rfl (congrArg (Value.int .u32) (w_or _ _)) ?_
    repeat (refine xnot 87 ?_; first | refine xst ?_ | refine xar ?_ | refine xop ?_ | refine xlen ?_ | refine xld rfl ?_ | refine xsto rfl ?_ | refine xno ?_ | refine xt ?_ | refine xf ?_)
    refine xE 87 (wV (u.b &&& u.c)) rfl (congrArg (Value.int .u32) (w_and _ _)) ?_
    repeat (refine xnot 88 ?_; first | refine xst ?_ | refine xar ?_ | refine xop ?_ | refine xlen ?_ | refine xld rfl ?_ | refine xsto rfl ?_ | refine xno ?_ | refine xt ?_ | refine xf ?_)
    refine xE 88 (wV ((u.a &&& u.b) ||| (u.a &&& u.c) ||| (u.b &&& u.c))) rfl (congrArg (Value.int .u32) (w_or _ _)) ?_
    repeat (refine xnot 89 ?_; first | refine xst ?_ | refine xar ?_ | refine xop ?_ | refine xlen ?_ | refine xld rfl ?_ | refine xsto rfl ?_ | refine xno ?_ | refine xt ?_ | refine xf ?_)
    refine xE 89 (wV u.t2) rfl (congrArg (Value.int .u32) (w_add _ _)) ?_
    repeat (refine xnot 95 ?_; first | refine xst ?_ | refine xar ?_ | refine xop ?_ | refine xlen ?_ | refine xld rfl ?_ | refine xsto rfl ?_ | refine xno ?_ | refine xt ?_ | refine xf ?_)
    refine xE 95 (wV (u.d + u.t1 (gW kL t) (gW ws t))) rfl (congrArg (Value.int .u32) (w_add _ _)) ?_
    repeat (refine xnot 101 ?_; first | refine xst ?_ | refine xar ?_ | refine xop ?_ | refine xlen ?_ | refine xld rfl ?_ | refine xsto rfl ?_ | refine xno ?_ | refine xt ?_ | refine xf ?_)
    refine xE 101 (wV (u.t1 (gW kL t) (gW ws t) + u.t2)) rfl (congrArg (Value.int .u32) (w_add _ _)) ?_
    repeat (first | refine xst ?_ | refine xar ?_ | refine xop ?_ | refine xlen ?_ | refine xld rfl ?_ | refine xsto rfl ?_ | refine xno ?_ | refine xt ?_ | refine xf ?_)
    have hn : rnds ws s (t + 1) = rndS (gW kL t) (gW ws t) u := by rw [← hu]; rfl
    refine G.fin (t + 1) ⟨by show t + 1 ≤ 64; omega, by show 64 - (t + 1) < 64 - t; omega⟩ ?_ (Ent.refl _)
    show Sub [(2, .pointer (some ⟨b2, 0, none⟩)), (4, .pointer (some ⟨b4, 0, none⟩)), (5, .slice (some ⟨wb, wo, none⟩) 64 c5), (6, .slice (some ⟨kb, 0, none⟩) 64 64), (15, .int .i64 ((t + 1 : Nat) : Int)),
      (7, wV (rnds ws s (t + 1)).a), (8, wV (rnds ws s (t + 1)).b), (9, wV (rnds ws s (t + 1)).c), (10, wV (rnds ws s (t + 1)).d), (11, wV (rnds ws s (t + 1)).e), (12, wV (rnds ws s (t + 1)).f), (13, wV (rnds ws s (t + 1)).g), (14, wV (rnds ws s (t + 1)).h)] _
    rw [hn]
    exact ⟨rfl, rfl, rfl, rfl, rfl, rfl, rfl, rfl, rfl, rfl, rfl, rfl, rfl, trivial⟩
  · obtain rfl : t = 64 := by omega
    have hp : procS bl s = addS s u := by unfold procS; rw [hws, hu]
    repeat (first | refine xst ?_ | refine xar ?_ | refine xop ?_ | refine xlen ?_ | refine xld rfl ?_ | refine xsto rfl ?_ | refine xno ?_ | refine xt ?_ | refine xf ?_)
    refine xix ?_ (hk := Nat.le_of_ble_eq_true rfl)
    repeat (refine xnot 105 ?_; first | refine xst ?_ | refine xar ?_ | refine xop ?_ | refine xlen ?_ | refine xld rfl ?_ | refine xsto rfl ?_ | refine xno ?_ | refine xt ?_ | refine xf ?_)
    refine xE 105 (wV (s.a + u.a)) rfl (congrArg (Value.int .u32) (w_add _ _)) ?_
    repeat (first | refine xst ?_ | refine xar ?_ | refine xop ?_ | refine xlen ?_ | refine xld rfl ?_ | refine xsto rfl ?_ | refine xno ?_ | refine xt ?_ | refine xf ?_)
    refine xix ?_ (hk := Nat.le_of_ble_eq_true rfl)
    repeat (refine xnot 109 ?_; first | refine xst ?_ | refine xar ?_ | refine xop ?_ | refine xlen ?_ | refine xld rfl ?_ | refine xsto rfl ?_ | refine xno ?_ | refine xt ?_ | refine xf ?_)
    refine xE 109 (wV (s.b + u.b)) rfl (congrArg (Value.int .u32) (w_add _ _)) ?_
    repeat (first | refine xst ?_ | refine xar ?_ | refine xop ?_ | refine xlen ?_ | refine xld rfl ?_ | refine xsto rfl ?_ | refine xno ?_ | refine xt ?_ | refine xf ?_)
    refine xix ?_ (hk := Nat.le_of_ble_eq_true rfl)
    repeat (refine xnot 113 ?_; first | refine xst ?_ | refine xar ?_ | refine xop ?_ | refine xlen ?_ | refine xld rfl ?_ | refine xsto rfl ?_ | refine xno ?_ | refine xt ?_ | refine xf ?_)
    refine xE 113 (wV (s.c + u.c)) rfl (congrArg (Value.int .u32) (w_add _ _)) ?_
    repeat (first | refine xst ?_ | refine xar ?_ | refine xop ?_ | refine xlen ?_ | refine xld rfl ?_ | refine xsto rfl ?_ | refine xno ?_ | refine xt ?_ | refine xf ?_)
    refine xix ?_ (hk := Nat.le_of_ble_eq_true rfl)
    repeat (refine xnot 117 ?_; first | refine xst ?_ | refine xar ?_ | refine xop ?_ | refine xlen ?_ | refine xld rfl ?_ | refine xsto rfl ?_ | refine xno ?_ | refine xt ?_ | refine xf ?_)
    refine xE 117 (wV (s.d + u.d)) rfl (congrArg (Value.int .u32) (w_add _ _)) ?_
    repeat (first | refine xst ?_ | refine xar ?_ | refine xop ?_ | refine xlen ?_ | refine xld rfl ?_ | refine xsto rfl ?_ | refine xno ?_ | refine xt ?_ | refine xf ?_)
    refine xix ?_ (hk := Nat.le_of_ble_eq_true rfl)
    repeat (refine xnot 121 ?_; first | refine xst ?_ | refine xar ?_ | refine xop ?_ | refine xlen ?_ | refine xld rfl ?_ | refine xsto rfl ?_ | refine xno ?_ | refine xt ?_ | refine xf ?_)
    refine xE 121 (wV (s.e + u.e)) rfl (congrArg (Value.int .u32) (w_add _ _)) ?_
    repeat (first | refine xst ?_ | refine xar ?_ | refine xop ?_ | refine xlen ?_ | refine xld rfl ?_ | refine xsto rfl ?_ | refine xno ?_ | refine xt ?_ | refine xf ?_)
    refine xix ?_ (hk := Nat.le_of_ble_eq_true rfl)
    repeat (refine xnot 125 ?_; first | refine xst ?_ | refine xar ?_ | refine xop ?_ | refine xlen ?_ | refine xld rfl ?_ | refine xsto rfl ?_ | refine xno ?_ | refine xt ?_ | refine xf ?_)
    refine xE 125 (wV (s.f + u.f)) rfl (congrArg (Value.int .u32) (w_add _ _)) ?_
    repeat (first | refine xst ?_ | refine xar ?_ | refine xop ?_ | refine xlen ?_ | refine xld rfl ?_ | refine xsto rfl ?_ | refine xno ?_ | refine xt ?_ | refine xf ?_)
    refine xix ?_ (hk := Nat.le_of_ble_eq_true rfl)
    repeat (refine xnot 129 ?_; first | refine xst ?_ | refine xar ?_ | refine xop ?_ | refine xlen ?_ | refine xld rfl ?_ | refine xsto rfl ?_ | refine xno ?_ | refine xt ?_ | refine xf ?_)
    refine xE 129 (wV (s.g + u.g)) rfl (congrArg (Value.int .u32) (w_add _ _)) ?_
    repeat (first | refine xst ?_ | refine xar ?_ | refine xop ?_ | refine xlen ?_ | refine xld rfl ?_ | refine xsto rfl ?_ | refine xno ?_ | refine xt ?_ | refine xf ?_)
    refine xix ?_ (hk := Nat.le_of_ble_eq_true rfl)
    repeat (refine xnot 133 ?_; first | refine xst ?_ | refine xar ?_ | refine xop ?_ | refine xlen ?_ | refine xld rfl ?_ | refine xsto rfl ?_ | refine xno ?_ | refine xt ?_ | refine xf ?_)
    refine xE 133 (wV (s.h + u.h)) rfl (congrArg (Value.int .u32) (w_add _ _)) ?_
    repeat (refine xnot 134 ?_; first | refine xst ?_ | refine xar ?_ | refine xop ?_ | refine xlen ?_ | refine xld rfl ?_ | refine xsto rfl ?_ | refine xno ?_ | refine xt ?_ | refine xf ?_)
    refine xE 134 (.agg (wsV (addS s u).l).toArray) rfl rfl ?_
    refine xsta (cs := wsV (addS s u).l) rfl rfl (wsV_one _) (wsV (addS s u).l) (put_all (by rfl)) (Nat.le_of_ble_eq_true rfl) ?_
    refine xst ?_
    refine xretm [] rfl (.c .nil rfl rfl (partF_all rfl rfl)) ?_
    rw [hp]
    exact ⟨rfl, rfl⟩
end Go.Proofs.YthlaacnjgdmakaaDoor

/- The document's answer, layer 4: the digest is the program's. -/
namespace Go.Proofs.YthlaacnjgdmakaaDoor
open Go.W

def padZ (n : Nat) : Nat := (120 - (n + 1) % 64) % 64
def padP (bs : List UInt8) : List UInt8 := bs ++ [0x80] ++ List.replicate (padZ bs.length) 0
def padF (bs : List UInt8) : List UInt8 := padP bs ++ (putB (bs.length * 8) 8).reverse
theorem padP_len (bs : List UInt8) : (padP bs).length = bs.length + 1 + padZ bs.length := by simp [padP]; omega
theorem padF_len (bs : List UInt8) : (padF bs).length = bs.length + 9 + padZ bs.length := by simp [padF, padP_len, putB_length]; omega
theorem padF_mod (bs : List UInt8) : (padF bs).length % 64 = 0 := by rw [padF_len]; unfold padZ; omega
def blks (l : List UInt8) : Nat → St
  | 0 => iniS
  | q + 1 => procS ((l.drop (64 * q)).take 64) (blks l q)
theorem write_blks (l : List UInt8) : ∀ q, 64 * q ≤ l.length → ∃ r, r.length = 64 ∧ hWrite newH (l.take (64 * q)) = ⟨blks l q, r, 64 * q⟩
  | 0, _ => ⟨List.replicate 64 0, rfl, rfl⟩
  | q + 1, h => by
    obtain ⟨r, hr, hw⟩ := write_blks l q (by omega)
    have e : l.take (64 * (q + 1)) = l.take (64 * q) ++ (l.drop (64 * q)).take 64 := by rw [Nat.mul_add, List.take_add]
    have hx : ((l.drop (64 * q)).take 64).length = 64 := by rw [List.length_take, List.length_drop]; omega
    rw [e, hWrite_append, hw, hWrite_chunk _ _ hr (by intro h0; rw [h0] at hx; simp at hx) (by show 64 * q % 64 + _ ≤ 64; omega)]
    have h0 : 64 * q % 64 = 0 := by omega
    unfold hChunk
    simp only [h0, hx, Nat.zero_add, if_true, List.take_zero, List.nil_append]
    have hd : r.drop 64 = [] := List.drop_eq_nil_of_le (by omega)
    rw [hd, List.append_nil]
    exact ⟨_, hx, rfl⟩
theorem shaF_blks (bs : List UInt8) : shaF bs = outS (blks (padF bs) ((padF bs).length / 64)).l := by
  have hm := padF_mod bs
  obtain ⟨r, hr, hw⟩ := write_blks (padF bs) ((padF bs).length / 64) (by omega)
  rw [List.take_of_length_le (by omega)] at hw
  unfold shaF hFin
  have hl : (hWrite newH bs).len = bs.length := by rw [hWrite_len]; show 0 + _ = _; omega
  have hl1 : (hWrite (hWrite newH bs) [0x80]).len = bs.length + 1 := by rw [hWrite_len, hl]; rfl
  simp only [hl, hl1]
  rw [← hWrite_append, ← hWrite_append, ← hWrite_append]
  have : bs ++ ([0x80] ++ (List.replicate ((120 - (bs.length + 1) % 64) % 64) 0 ++ (putB (bs.length * 8) 8).reverse)) = padF bs := by
    simp [padF, padP, padZ]
  rw [this, hw]

theorem tmod_nat (m k : Nat) : ((m : Int).tmod (k : Int)) = ((m % k : Nat) : Int) := by rw [Int.ofNat_tmod]
theorem tdiv_nat (m k : Nat) : ((m : Int).tdiv (k : Int)) = ((m / k : Nat) : Int) := by rw [Int.ofNat_tdiv]

set_option maxHeartbeats 800000 in
theorem padded_spec (a : Option Addr) (n cap : Nat) (bs : List UInt8) (hn : n = bs.length) (hl : n ≤ 900000000) : Fun Tryd.prog 73 [.slice a n cap] [slR 1 a n cap (bsV bs)] []
    fun v H => ∃ a' cap', v = .slice a' (padF bs).length cap' ∧ H = [sl 1 a' (padF bs).length cap' (bsV (padF bs))] := by
  subst hn
  refine xenter (p := pg) Tryd.call73 Tryd.func73 fun C => ?_
  have hr := RP.slR (RP.of C (X := slR 1 a bs.length cap (bsV bs)) (by simp))
  repeat (first | refine xst ?_ | refine xar ?_ | refine xop ?_ | refine xlen ?_ | refine xld rfl ?_ | refine xsto rfl ?_ | refine xno ?_ | refine xt ?_ | refine xf ?_)
  refine xbsl fun b => ?_
  refine xslc 0 1 0 [] rfl rfl rfl ?_
  repeat (first | refine xst ?_ | refine xar ?_ | refine xop ?_ | refine xlen ?_ | refine xld rfl ?_ | refine xsto rfl ?_ | refine xno ?_ | refine xt ?_ | refine xf ?_)
  refine xapp [] rfl (SrcOk.rs hr (bsV_one _)) (by omega) fun a1 c1 => ?_
  refine xreH 0 (sl 1 a1 bs.length c1 (bsV bs)) rfl (by rw [Nat.zero_add]; rfl) ?_
  refine xE 8 (.slice a1 bs.length c1) rfl (by rw [Nat.zero_add]) ?_
  repeat (first | refine xst ?_ | refine xar ?_ | refine xop ?_ | refine xlen ?_ | refine xld rfl ?_ | refine xsto rfl ?_ | refine xno ?_ | refine xt ?_ | refine xf ?_)
  refine xbsl fun b2 => ?_
  refine xapp (bsV bs) rfl (SrcOk.blk (ys := bsV [0x80]) rfl (by simp) (bsV_one _)) (by omega) fun a2 c2 => ?_
  repeat (first | refine xst ?_ | refine xar ?_ | refine xop ?_ | refine xlen ?_ | refine xld rfl ?_ | refine xsto rfl ?_ | refine xno ?_ | refine xt ?_ | refine xf ?_)
  refine G.loop (σ := Nat × Option Addr × Nat) (fun s => [(0, .slice a bs.length cap), (3, .slice s.2.1 (bs.length + 1 + s.1) s.2.2)]) (fun s => [sl 1 s.2.1 (bs.length + 1 + s.1) s.2.2 (bsV (bs ++ [0x80] ++ List.replicate s.1 0))])
    (fun s => s.1 + (120 - (bs.length + 1 + s.1) % 64) % 64 = padZ bs.length) (fun s => (120 - (bs.length + 1 + s.1) % 64) % 64) (0, a2, c2) (by show 0 + _ = _; unfold padZ; omega) ⟨rfl, rfl, trivial⟩
    (by show Ent _ [sl 1 a2 (bs.length + 1 + 0) c2 (bsV (bs ++ [0x80] ++ []))]; rw [List.append_nil, bsV_append]; exact ent_pick) ?_
  rintro ⟨z, a3, c3⟩ hz
  have hz : z + (120 - (bs.length + 1 + z) % 64) % 64 = padZ bs.length := hz
  have hz64 : z ≤ 64 := by have : padZ bs.length < 64 := Nat.mod_lt _ (by omega); omega
  show G C _ [(0, .slice a bs.length cap), (3, .slice a3 (bs.length + 1 + z) c3)] [sl 1 a3 (bs.length + 1 + z) c3 (bsV (bs ++ [0x80] ++ List.replicate z 0))]
  repeat (refine xnot 13 ?_; first | refine xst ?_ | refine xar ?_ | refine xop ?_ | refine xlen ?_ | refine xld rfl ?_ | refine xsto rfl ?_ | refine xno ?_ | refine xt ?_ | refine xf ?_)
  refine xE 13 (.int .i64 (((bs.length + 1 + z) % 64 : Nat) : Int)) rfl (congrArg (Value.int .i64) (tmod_nat _ 64)) ?_
  repeat (first | refine xst ?_ | refine xar ?_ | refine xop ?_ | refine xlen ?_ | refine xld rfl ?_ | refine xsto rfl ?_ | refine xno ?_ | refine xt ?_ | refine xf ?_)
  refine xd (q := (((bs.length + 1 + z) % 64 : Nat) : Int) ≠ 56) (fun h1 => ?_) (fun h1 => ?_)
  · repeat (first | refine xst ?_ | refine xar ?_ | refine xop ?_ | refine xlen ?_ | refine xld rfl ?_ | refine xsto rfl ?_ | refine xno ?_ | refine xt ?_ | refine xf ?_)
    refine xbsl fun b3 => ?_
    refine xapp (bsV (bs ++ [0x80] ++ List.replicate z 0)) rfl (SrcOk.blk (ys := bsV [0]) rfl (by simp) (bsV_one _)) (by omega) fun a4 c4 => ?_
    repeat (first | refine xst ?_ | refine xar ?_ | refine xop ?_ | refine xlen ?_ | refine xld rfl ?_ | refine xsto rfl ?_ | refine xno ?_ | refine xt ?_ | refine xf ?_)
    refine G.fin (z + 1, a4, c4) ⟨by show z + 1 + (120 - (bs.length + 1 + (z + 1)) % 64) % 64 = _; omega, by show (120 - (bs.length + 1 + (z + 1)) % 64) % 64 < (120 - (bs.length + 1 + z) % 64) % 64; omega⟩ ⟨rfl, rfl, trivial⟩ ?_
    show Ent _ [sl 1 a4 (bs.length + 1 + (z + 1)) c4 (bsV (bs ++ [0x80] ++ List.replicate (z + 1) 0))]
    rw [List.replicate_succ', ← List.append_assoc, bsV_append (bs ++ [0x80] ++ List.replicate z 0)]
    exact ent_pick
  · have hz0 : z = padZ bs.length := by omega
    subst hz0
    obtain ⟨pp, hpp⟩ : ∃ pp, padP bs = pp := ⟨_, rfl⟩
    have hpl : pp.length = bs.length + 1 + padZ bs.length := by rw [← hpp, padP_len]
    refine xreH 0 (sl 1 a3 (pp.length + 0) c3 (bsV (pp ++ (putB (bs.length * 8) 8).reverse.take 0))) rfl (by rw [List.take_zero, List.append_nil, hpl, ← hpp]; rfl) ?_
    refine xE 3 (.slice a3 (pp.length + 0) c3) rfl (by rw [hpl]; rfl) ?_
    have htl : (putB (bs.length * 8) 8).reverse.length = 8 := by simp [putB_length]
    repeat (refine xnot 20 ?_; first | refine xst ?_ | refine xar ?_ | refine xop ?_ | refine xlen ?_ | refine xld rfl ?_ | refine xsto rfl ?_ | refine xno ?_ | refine xt ?_ | refine xf ?_)
    refine xE 20 (.int .u64 (bs.length : Int)) rfl (congrArg (Value.int .u64) (u64_wrap (by omega))) ?_
    repeat (refine xnot 21 ?_; first | refine xst ?_ | refine xar ?_ | refine xop ?_ | refine xlen ?_ | refine xld rfl ?_ | refine xsto rfl ?_ | refine xno ?_ | refine xt ?_ | refine xf ?_)
    refine xE 21 (.int .u64 ((bs.length * 8 : Nat) : Int)) rfl (congrArg (Value.int .u64) (by rw [show (bs.length : Int) * 8 = ((bs.length * 8 : Nat) : Int) by omega]; exact u64_wrap (by omega))) ?_
    repeat (first | refine xst ?_ | refine xar ?_ | refine xop ?_ | refine xlen ?_ | refine xld rfl ?_ | refine xsto rfl ?_ | refine xno ?_ | refine xt ?_ | refine xf ?_)
    refine G.loop (σ := Nat × Option Addr × Nat) (fun s => [(4, .int .u64 ((bs.length * 8 : Nat) : Int)), (3, .slice s.2.1 (pp.length + s.1) s.2.2), (5, .int .i64 (7 - (s.1 : Int)))]) (fun s => [sl 1 s.2.1 (pp.length + s.1) s.2.2 (bsV (pp ++ (putB (bs.length * 8) 8).reverse.take s.1))])
      (fun s => s.1 ≤ 8) (fun s => 8 - s.1) (0, a3, c3) (Nat.zero_le _) ⟨rfl, rfl, rfl, trivial⟩ (Ent.refl _) ?_
    rintro ⟨j, a4, c4⟩ hj
    have hj : j ≤ 8 := hj
    show G C _ [(4, .int .u64 ((bs.length * 8 : Nat) : Int)), (3, .slice a4 (pp.length + j) c4), (5, .int .i64 (7 - (j : Int)))] [sl 1 a4 (pp.length + j) c4 (bsV (pp ++ (putB (bs.length * 8) 8).reverse.take j))]
    repeat (first | refine xst ?_ | refine xar ?_ | refine xop ?_ | refine xlen ?_ | refine xld rfl ?_ | refine xsto rfl ?_ | refine xno ?_ | refine xt ?_ | refine xf ?_)
    refine xd (q := 0 ≤ 7 - (j : Int)) (fun h2 => ?_) (fun h2 => ?_)
    · have h2 : j < 8 := by omega
      repeat (refine xnot 30 ?_; first | refine xst ?_ | refine xar ?_ | refine xop ?_ | refine xlen ?_ | refine xld rfl ?_ | refine xsto rfl ?_ | refine xno ?_ | refine xt ?_ | refine xf ?_)
      refine xE 30 (.int .u64 ((8 * (7 - j) : Nat) : Int)) rfl (congrArg (Value.int .u64) (by rw [show (8 : Int) * (7 - (j : Int)) = ((8 * (7 - j) : Nat) : Int) by omega]; exact u64_wrap (by omega))) ?_
      repeat (refine xnot 32 ?_; first | refine xst ?_ | refine xar ?_ | refine xop ?_ | refine xlen ?_ | refine xld rfl ?_ | refine xsto rfl ?_ | refine xno ?_ | refine xt ?_ | refine xf ?_)
      refine xE 32 (bV (UInt8.ofNat (bs.length * 8 / 2 ^ (8 * (7 - j))))) rfl (congrArg (Value.int .u8) (putB_byte _ _ (by omega))) ?_
      repeat (first | refine xst ?_ | refine xar ?_ | refine xop ?_ | refine xlen ?_ | refine xld rfl ?_ | refine xsto rfl ?_ | refine xno ?_ | refine xt ?_ | refine xf ?_)
      refine xbsl fun b3 => ?_
      refine xapp (bsV (pp ++ (putB (bs.length * 8) 8).reverse.take j)) rfl (SrcOk.blk (ys := bsV [UInt8.ofNat (bs.length * 8 / 2 ^ (8 * (7 - j)))]) rfl (by simp) (bsV_one _)) (by omega) fun a5 c5 => ?_
      repeat (first | refine xst ?_ | refine xar ?_ | refine xop ?_ | refine xlen ?_ | refine xld rfl ?_ | refine xsto rfl ?_ | refine xno ?_ | refine xt ?_ | refine xf ?_)
      have hnx : (putB (bs.length * 8) 8).reverse.take (j + 1) = (putB (bs.length * 8) 8).reverse.take j ++ [UInt8.ofNat (bs.length * 8 / 2 ^ (8 * (7 - j)))] := by
        have hg := tail_get (bs.length * 8) j h2
        rw [bsV_get (by omega)] at hg
        rw [List.take_succ_eq_append_getElem (by omega)]
        congr 2
        have := Option.some.inj hg
        unfold bV at this
        simp only [Value.int.injEq, true_and] at this
        exact UInt8.toNat_inj.1 (Int.ofNat.inj this)
      refine G.fin (j + 1, a5, c5) ⟨by show j + 1 ≤ 8; omega, by show 8 - (j + 1) < 8 - j; omega⟩ ⟨rfl, rfl, ?_, trivial⟩ ?_
      · show W.look _ 5 = some (.int .i64 (7 - ((j + 1 : Nat) : Int)))
        rw [show (7 : Int) - ((j + 1 : Nat) : Int) = 7 - (j : Int) - 1 by omega]; rfl
      · show Ent _ [sl 1 a5 (pp.length + (j + 1)) c5 (bsV (pp ++ (putB (bs.length * 8) 8).reverse.take (j + 1)))]
        rw [hnx, ← List.append_assoc, bsV_append (pp ++ _)]
        exact ent_pick
    · obtain rfl : j = 8 := by omega
      repeat (first | refine xst ?_ | refine xar ?_ | refine xop ?_ | refine xlen ?_ | refine xld rfl ?_ | refine xsto rfl ?_ | refine xno ?_ | refine xt ?_ | refine xf ?_)
      refine xretp [0] ?_
      have e : pp ++ (putB (bs.length * 8) 8).reverse.take 8 = padF bs := by rw [List.take_of_length_le (by omega), ← hpp]; rfl
      have el : pp.length + 8 = (padF bs).length := by rw [← e, List.length_append, List.length_take, htl]; rfl
      rw [e, el]
      exact ⟨_, _, rfl, rfl⟩
end Go.Proofs.YthlaacnjgdmakaaDoor

/- image: manifests. -/
namespace Go.Proofs.YthlaacnjgdmakaaDoor
open Go.W

structure Man where
  part : Int
  ver : UInt32
  size : Int
  sum : List UInt8
def Man.v (m : Man) : List Value := .int .i64 m.part :: wV m.ver :: .int .i64 m.size :: bsV m.sum
def Man.ok (m : Man) : Bool := decide (0 ≤ m.part ∧ m.part < 8 ∧ 4 ≤ m.size ∧ m.size ≤ 512 ∧ m.size.tmod 4 = 0)
theorem Man.v_len {m : Man} (h : m.sum.length = 32) : m.v.length = 35 := by unfold Man.v; simp [bsV, h]
theorem Man.v_one (m : Man) : ∀ v ∈ m.v, v.oneCell' = true := by
  intro v hv
  unfold Man.v at hv
  simp only [List.mem_cons] at hv
  rcases hv with rfl | rfl | rfl | hv
  · rfl
  · rfl
  · rfl
  · exact bsV_one _ v hv

theorem valid_spec (m : Man) (_hs : m.sum.length = 32) : Fun Tryd.prog 40 [.agg m.v.toArray] [] [] fun v H => v = .bool m.ok ∧ H = [] := by
  refine xenter (p := pg) Tryd.call40 Tryd.func40 fun C => ?_
  repeat (first | refine xst ?_ | refine xar ?_ | refine xop ?_ | refine xlen ?_ | refine xld rfl ?_ | refine xsto rfl ?_ | refine xno ?_ | refine xt ?_ | refine xf ?_)
  refine xnew fun b => ?_
  refine xrep 0 m.v rfl rfl ?_
  repeat (first | refine xst ?_ | refine xar ?_ | refine xop ?_ | refine xlen ?_ | refine xld rfl ?_ | refine xsto rfl ?_ | refine xno ?_ | refine xt ?_ | refine xf ?_)
  refine xbc 6 (fun h1 => ?_) (fun h1 => ?_)
  · repeat (first | refine xst ?_ | refine xar ?_ | refine xop ?_ | refine xlen ?_ | refine xld rfl ?_ | refine xsto rfl ?_ | refine xno ?_ | refine xt ?_ | refine xf ?_)
    refine xbc 11 (fun h2 => ?_) (fun h2 => ?_)
    · repeat (first | refine xst ?_ | refine xar ?_ | refine xop ?_ | refine xlen ?_ | refine xld rfl ?_ | refine xsto rfl ?_ | refine xno ?_ | refine xt ?_ | refine xf ?_)
      refine xbc 16 (fun h3 => ?_) (fun h3 => ?_)
      · repeat (first | refine xst ?_ | refine xar ?_ | refine xop ?_ | refine xlen ?_ | refine xld rfl ?_ | refine xsto rfl ?_ | refine xno ?_ | refine xt ?_ | refine xf ?_)
        refine xbc 21 (fun h4 => ?_) (fun h4 => ?_)
        · repeat (first | refine xst ?_ | refine xar ?_ | refine xop ?_ | refine xlen ?_ | refine xld rfl ?_ | refine xsto rfl ?_ | refine xno ?_ | refine xt ?_ | refine xf ?_)
          refine xret [] ⟨?_, rfl⟩
          simp only [resV]; congr 1; unfold Man.ok; rw [Bool.eq_iff_iff]; simp only [decide_eq_true_eq]
          exact ⟨fun h => ⟨h1, h2, h3, h4, h⟩, fun h => h.2.2.2.2⟩
        · repeat (first | refine xst ?_ | refine xar ?_ | refine xop ?_ | refine xlen ?_ | refine xld rfl ?_ | refine xsto rfl ?_ | refine xno ?_ | refine xt ?_ | refine xf ?_)
          refine xret [] ⟨?_, rfl⟩
          simp only [resV]; congr 1; unfold Man.ok; rw [decide_eq_false (by omega)]
      · repeat (first | refine xst ?_ | refine xar ?_ | refine xop ?_ | refine xlen ?_ | refine xld rfl ?_ | refine xsto rfl ?_ | refine xno ?_ | refine xt ?_ | refine xf ?_)
        refine xret [] ⟨?_, rfl⟩
        simp only [resV]; congr 1; unfold Man.ok; rw [decide_eq_false (by omega)]
    · repeat (first | refine xst ?_ | refine xar ?_ | refine xop ?_ | refine xlen ?_ | refine xld rfl ?_ | refine xsto rfl ?_ | refine xno ?_ | refine xt ?_ | refine xf ?_)
      refine xret [] ⟨?_, rfl⟩
      simp only [resV]; congr 1; unfold Man.ok; rw [decide_eq_false (by omega)]
  · repeat (first | refine xst ?_ | refine xar ?_ | refine xop ?_ | refine xlen ?_ | refine xld rfl ?_ | refine xsto rfl ?_ | refine xno ?_ | refine xt ?_ | refine xf ?_)
    refine xret [] ⟨?_, rfl⟩
    simp only [resV]; congr 1; unfold Man.ok; rw [decide_eq_false (by omega)]

theorem of_spec (part : Int) (ver : UInt32) (a : Option Addr) (n cap : Nat) (bs : List UInt8) (hn : n = bs.length) (hl : n ≤ 900000000) : Fun Tryd.prog 29 [.int .i64 part, wV ver, .slice a n cap] [kV, iniV, slR 1 a n cap (bsV bs)] []
    fun v H => v = .agg (Man.v ⟨part, ver, bs.length, shaF bs⟩).toArray ∧ H = [] := by
  subst hn
  refine xenter (p := pg) Tryd.call29 Tryd.func29 fun C => ?_
  haveI : RP C kV := RP.of C (by simp)
  haveI : RP C iniV := RP.of C (by simp)
  haveI := RP.slR (RP.of C (X := slR 1 a bs.length cap (bsV bs)) (by simp))
  iterate 2 (first | refine xst ?_ | refine xar ?_ | refine xop ?_ | refine xlen ?_ | refine xld rfl ?_ | refine xsto rfl ?_ | refine xno ?_ | refine xt ?_ | refine xf ?_)
  refine xnew fun b2 => ?_
  refine xrep 0 ([.int .i64 0, .int .u32 0, .int .i64 0] ++ zeros 32 [.int .u8 0]) rfl rfl ?_
  repeat (first | refine xst ?_ | refine xar ?_ | refine xop ?_ | refine xlen ?_ | refine xld rfl ?_ | refine xsto rfl ?_ | refine xno ?_ | refine xt ?_ | refine xf ?_)
  refine xcall (sum_spec a bs.length cap bs rfl hl) ?_
  rintro v H ⟨rfl, rfl⟩
  refine G.app ?_
  obtain ⟨s, hs⟩ : ∃ s, shaF bs = s := ⟨_, rfl⟩
  have hsl : s.length = 32 := by rw [← hs, shaF_len]
  refine xE 12 (.agg (bsV s).toArray) rfl (by rw [hs]) ?_
  refine xbuild (Man.v ⟨part, ver, bs.length, s⟩) rfl (fillF_cons rfl rfl (by exact Nat.le_of_ble_eq_true rfl) (fillF_cons rfl rfl (by exact Nat.le_of_ble_eq_true rfl) (fillF_cons rfl rfl (by exact Nat.le_of_ble_eq_true rfl) (fillF_cons rfl (by show (bsV s).length = 32; rw [bsV_length, hsl]) (by exact Nat.le_of_ble_eq_true rfl)
    (congrArg some (List.append_nil _)))))) ?_
  have hml := Man.v_len (m := ⟨part, ver, bs.length, s⟩) hsl
  refine xsta (cs := Man.v ⟨part, ver, bs.length, s⟩) rfl hml (Man.v_one _) (Man.v ⟨part, ver, bs.length, s⟩) (put_all (by rw [hml]; rfl)) (by rw [hml]; exact Nat.le_of_ble_eq_true rfl) ?_
  refine xst ?_
  refine xretm [] rfl (.c .nil rfl rfl (partF_all rfl hml)) ?_
  rw [hs]
  exact ⟨rfl, rfl⟩
end Go.Proofs.YthlaacnjgdmakaaDoor

/- image: programs. -/
namespace Go.Proofs.YthlaacnjgdmakaaDoor
open Go.W

theorem eq_sum : EqK pg 37 ty37 :=
  ⟨EqT.arr (j := ty5) ok37 rfl ok5 rfl (.inr rfl) (EqT.int ok5 rfl rfl 9998), rfl, by kernel_rfl⟩

/-- What is wrong with an image: the fault. -/
def progF (m : Man) (bs : List UInt8) : List (Int × Int) :=
  if m.ok = false then [(1, 0)]
  else if (bs.length : Int) < m.size then [(2, bs.length)]
  else if (bs.length : Int) > m.size then [(7, m.size)]
  else if shaF bs ≠ m.sum then [(8, 0)]
  else inF (decF bs) m.ver.toNat
def progL (m : Man) (bs : List UInt8) : List Ins := if progF m bs = [] then listI bs else []

theorem program_spec (m : Man) (hs : m.sum.length = 32) (a : Option Addr) (n cap : Nat) (bs : List UInt8) (hn : n = bs.length) (hl : n ≤ 1000000) : Fun Tryd.prog 42 [.agg m.v.toArray, .slice a n cap] [gErr, kV, iniV, slR 1 a n cap (bsV bs)] []
    fun v H => ∃ a' cap' e, v = .tuple #[.slice a' (progL m bs).length cap', e] ∧ oneC e = true ∧ H = [sl 4 a' (progL m bs).length cap' (inssV (progL m bs)), chain (progF m bs) e] := by
  subst hn
  refine xenter (p := pg) Tryd.call42 Tryd.func42 fun C => ?_
  haveI : RP C gErr := RP.of C (by simp)
  haveI : RP C kV := RP.of C (by simp)
  haveI : RP C iniV := RP.of C (by simp)
  haveI hr := RP.slR (RP.of C (X := slR 1 a bs.length cap (bsV bs)) (by simp))
  have hml := Man.v_len hs
  repeat (first | refine xst ?_ | refine xar ?_ | refine xop ?_ | refine xlen ?_ | refine xld rfl ?_ | refine xsto rfl ?_ | refine xno ?_ | refine xt ?_ | refine xf ?_)
  refine xnew fun b => ?_
  refine xrep 0 m.v rfl rfl ?_
  repeat (first | refine xst ?_ | refine xar ?_ | refine xop ?_ | refine xlen ?_ | refine xld rfl ?_ | refine xsto rfl ?_ | refine xno ?_ | refine xt ?_ | refine xf ?_)
  refine xld rfl ?_ (hv := partF_all rfl hml)
  refine xcall (valid_spec m hs) ?_
  rintro v H ⟨rfl, rfl⟩
  refine G.app ?_
  repeat (first | refine xst ?_ | refine xar ?_ | refine xop ?_ | refine xlen ?_ | refine xld rfl ?_ | refine xsto rfl ?_ | refine xno ?_ | refine xt ?_ | refine xf ?_)
  refine xbb 8 (fun h1 => ?_) (fun h1 => ?_)
  · have h1 : m.ok = false := by simpa using h1
    have e1 : progF m bs = newF 1 0 := by unfold progF; rw [if_pos h1]; rfl
    have e2 : progL m bs = [] := by unfold progL; rw [e1]; rfl
    repeat (first | refine xst ?_ | refine xar ?_ | refine xop ?_ | refine xlen ?_ | refine xld rfl ?_ | refine xsto rfl ?_ | refine xno ?_ | refine xt ?_ | refine xf ?_)
    refine xcall (new_spec 1 0) ?_
    rintro v H rfl
    refine G.app ?_
    refine G.fact (chain (newF 1 0) v) (P := oneC v = true) (fun w F h => chain_one h) fun ho => ?_
    repeat (first | refine xst ?_ | refine xar ?_ | refine xop ?_ | refine xlen ?_ | refine xld rfl ?_ | refine xsto rfl ?_ | refine xno ?_ | refine xt ?_ | refine xf ?_)
    refine G.sln 4 ?_
    refine xretp [0, 0] ?_
    rw [e1, e2]
    exact ⟨none, 0, v, rfl, ho, rfl⟩
  · have h1 : m.ok = true := by simpa using h1
    have hsz : 4 ≤ m.size ∧ m.size ≤ 512 := by
      unfold Man.ok at h1; rw [decide_eq_true_eq] at h1; omega
    repeat (first | refine xst ?_ | refine xar ?_ | refine xop ?_ | refine xlen ?_ | refine xld rfl ?_ | refine xsto rfl ?_ | refine xno ?_ | refine xt ?_ | refine xf ?_)
    refine xd (fun h2 => ?_) (fun h2 => ?_)
    · have e1 : progF m bs = newF 2 bs.length := by unfold progF; rw [if_neg (by rw [h1]; simp), if_pos h2]; rfl
      have e2 : progL m bs = [] := by unfold progL; rw [e1]; rfl
      repeat (first | refine xst ?_ | refine xar ?_ | refine xop ?_ | refine xlen ?_ | refine xld rfl ?_ | refine xsto rfl ?_ | refine xno ?_ | refine xt ?_ | refine xf ?_)
      refine xcall (new_spec 2 bs.length) ?_
      rintro v H rfl
      refine G.app ?_
      refine G.fact (chain (newF 2 bs.length) v) (P := oneC v = true) (fun w F h => chain_one h) fun ho => ?_
      repeat (first | refine xst ?_ | refine xar ?_ | refine xop ?_ | refine xlen ?_ | refine xld rfl ?_ | refine xsto rfl ?_ | refine xno ?_ | refine xt ?_ | refine xf ?_)
      refine G.sln 4 ?_
      refine xretp [0, 0] ?_
      rw [e1, e2]
      exact ⟨none, 0, v, rfl, ho, rfl⟩
    · repeat (first | refine xst ?_ | refine xar ?_ | refine xop ?_ | refine xlen ?_ | refine xld rfl ?_ | refine xsto rfl ?_ | refine xno ?_ | refine xt ?_ | refine xf ?_)
      refine xd (fun h3 => ?_) (fun h3 => ?_)
      · have e1 : progF m bs = newF 7 m.size := by unfold progF; rw [if_neg (by rw [h1]; simp), if_neg h2, if_pos h3]; rfl
        have e2 : progL m bs = [] := by unfold progL; rw [e1]; rfl
        repeat (first | refine xst ?_ | refine xar ?_ | refine xop ?_ | refine xlen ?_ | refine xld rfl ?_ | refine xsto rfl ?_ | refine xno ?_ | refine xt ?_ | refine xf ?_)
        refine xcall (new_spec 7 m.size) ?_
        rintro v H rfl
        refine G.app ?_
        refine G.fact (chain (newF 7 m.size) v) (P := oneC v = true) (fun w F h => chain_one h) fun ho => ?_
        repeat (first | refine xst ?_ | refine xar ?_ | refine xop ?_ | refine xlen ?_ | refine xld rfl ?_ | refine xsto rfl ?_ | refine xno ?_ | refine xt ?_ | refine xf ?_)
        refine G.sln 4 ?_
        refine xretp [0, 0] ?_
        rw [e1, e2]
        exact ⟨none, 0, v, rfl, ho, rfl⟩
      · repeat (first | refine xst ?_ | refine xar ?_ | refine xop ?_ | refine xlen ?_ | refine xld rfl ?_ | refine xsto rfl ?_ | refine xno ?_ | refine xt ?_ | refine xf ?_)
        have hp3 : (i : TI) → i.agg = true → i.size = 32 → partF i m.v (0 + 3) = some (.agg (bsV m.sum).toArray) := by
          intro i ha hs'
          rw [partF_agg ha (by rw [hml, hs']; exact Nat.le_of_ble_eq_true rfl), hs']
          show some (Value.agg ((bsV m.sum).take 32).toArray) = _
          rw [List.take_of_length_le (by rw [bsV_length, hs]; exact Nat.le_refl _)]
        refine xdraw ?_
        refine xdop 0 ?_
        refine xdop 2 ?_
        refine xdld 3 rfl rfl ?_ (hv := hp3 _ rfl rfl)
        refine xdact 1 ?_
        refine xcall (sum_spec a bs.length cap bs rfl (by omega)) ?_
        rintro v H ⟨rfl, rfl⟩
        refine G.app ?_
        have hsl := shaF_len bs
        refine xst ?_
        refine xdeq 4 rfl rfl eq_sum (by rw [bsV_length, hsl]; rfl) (by rw [bsV_length, hs]; rfl) (SameK.bsV (by rw [hsl, hs])) ?_
        refine xdop 5 ?_
        refine xdend ?_
        have hne : (true ^^ eqIV (bsV (shaF bs)) (bsV m.sum)) = decide (shaF bs ≠ m.sum) := by
          rw [eqIV_bsV (by rw [hsl, hs])]; simp
        refine xE 31 (.bool (decide (shaF bs ≠ m.sum))) rfl (congrArg Value.bool hne) ?_
        refine xd (fun h4 => ?_) (fun h4 => ?_)
        · have e1 : progF m bs = newF 8 0 := by unfold progF; rw [if_neg (by rw [h1]; simp), if_neg h2, if_neg h3, if_pos h4]; rfl
          have e2 : progL m bs = [] := by unfold progL; rw [e1]; rfl
          repeat (first | refine xst ?_ | refine xar ?_ | refine xop ?_ | refine xlen ?_ | refine xld rfl ?_ | refine xsto rfl ?_ | refine xno ?_ | refine xt ?_ | refine xf ?_)
          refine xcall (new_spec 8 0) ?_
          rintro v H rfl
          refine G.app ?_
          refine G.fact (chain (newF 8 0) v) (P := oneC v = true) (fun w F h => chain_one h) fun ho => ?_
          repeat (first | refine xst ?_ | refine xar ?_ | refine xop ?_ | refine xlen ?_ | refine xld rfl ?_ | refine xsto rfl ?_ | refine xno ?_ | refine xt ?_ | refine xf ?_)
          refine G.sln 4 ?_
          refine xretp [0, 0] ?_
          rw [e1, e2]
          exact ⟨none, 0, v, rfl, ho, rfl⟩
        · have e1 : progF m bs = inF (decF bs) m.ver.toNat := by unfold progF; rw [if_neg (by rw [h1]; simp), if_neg h2, if_neg h3, if_neg h4]
          have hin : inF (decF bs) m.ver.toNat = [] ↔ decF bs = [] := by unfold inF; split <;> simp_all
          have e2 : progL m bs = decL bs := by unfold progL decL; rw [e1]; simp only [hin]
          repeat (first | refine xst ?_ | refine xar ?_ | refine xop ?_ | refine xlen ?_ | refine xld rfl ?_ | refine xsto rfl ?_ | refine xno ?_ | refine xt ?_ | refine xf ?_)
          refine xcall (decode_spec a bs.length cap bs rfl hl) ?_
          rintro v H ⟨a', cap', e, rfl, he, rfl⟩
          refine G.app ?_
          cases hd : decF bs with
          | nil =>
            refine G.fact (chain [] e) (P := e = .nilIface) (fun w F h => h) fun h => ?_
            subst h
            repeat (first | refine xst ?_ | refine xar ?_ | refine xop ?_ | refine xlen ?_ | refine xld rfl ?_ | refine xsto rfl ?_ | refine xno ?_ | refine xt ?_ | refine xf ?_)
            refine xretp [0, 0] ?_
            rw [e1, e2, hd]
            exact ⟨a', cap', _, rfl, rfl, rfl⟩
          | cons q r =>
            obtain ⟨c, x⟩ := q
            refine G.fact (chain ((c, x) :: r) e) (P := ∃ b : Nat, e = .iface 128 (.pointer (some ⟨b, 0, none⟩))) (fun w F h => by obtain ⟨b, u, F1, F2, ⟨h1, h2⟩, _⟩ := h; exact ⟨b, h1⟩) fun h => ?_
            obtain ⟨b2, rfl⟩ := h
            have hver := m.ver.toNat_lt
            repeat (first | refine xst ?_ | refine xar ?_ | refine xop ?_ | refine xlen ?_ | refine xld rfl ?_ | refine xsto rfl ?_ | refine xno ?_ | refine xt ?_ | refine xf ?_)
            refine xE 48 (.int .i64 (m.ver.toNat : Int)) rfl (by first | rfl | exact congrArg (Value.int .i64) (wrap_nat (by omega))) ?_
            refine xcall (in_spec ((c, x) :: r) (.iface 128 (.pointer (some ⟨b2, 0, none⟩))) (m.ver.toNat : Int) rfl) ?_
            rintro v H rfl
            refine G.app ?_
            refine G.fact (chain (inF ((c, x) :: r) m.ver.toNat) v) (P := oneC v = true) (fun w F h => chain_one h) fun ho => ?_
            repeat (first | refine xst ?_ | refine xar ?_ | refine xop ?_ | refine xlen ?_ | refine xld rfl ?_ | refine xsto rfl ?_ | refine xno ?_ | refine xt ?_ | refine xf ?_)
            refine G.sln 4 ?_
            refine xretp [0, 0] ?_
            have e3 : decL bs = [] := by unfold decL; rw [hd]; rfl
            rw [e1, e2, e3, hd]
            exact ⟨none, 0, v, rfl, ho, rfl⟩
end Go.Proofs.YthlaacnjgdmakaaDoor

/- image: Finish, Check, Begin. -/
namespace Go.Proofs.YthlaacnjgdmakaaDoor
open Go.W

def stgV (m : Man) (s : Value) : List Value := m.v ++ [s]
theorem stgV_len {m : Man} (h : m.sum.length = 32) (s : Value) : (stgV m s).length = 36 := by unfold stgV; rw [List.length_append, Man.v_len h]; rfl
theorem stgV_man {m : Man} (h : m.sum.length = 32) (s : Value) {i : TI} (ha : i.agg = true) (hs : i.size = 35) : partF i (stgV m s) (0 + 0) = some (.agg m.v.toArray) := by
  rw [partF_agg ha (by rw [stgV_len h, hs]; exact Nat.le_of_ble_eq_true rfl), hs]
  show some (Value.agg ((m.v ++ [s]).take 35).toArray) = _
  rw [List.take_append_of_le_length (by rw [Man.v_len h]; exact Nat.le_refl _), List.take_of_length_le (by rw [Man.v_len h]; exact Nat.le_refl _)]
theorem stgV_got {m : Man} (h : m.sum.length = 32) (s : Value) {i : TI} (ha : i.agg = false) : partF i (stgV m s) (0 + 35) = some s := by
  refine partF_one ha ?_
  unfold stgV
  rw [List.getElem?_append_right (by rw [Man.v_len h]; exact Nat.le_of_ble_eq_true rfl), Man.v_len h]; rfl
theorem stgV_one (m : Man) {s : Value} (hs : s.oneCell' = true) : ∀ v ∈ stgV m s, v.oneCell' = true := by
  intro v hv
  rcases List.mem_append.1 hv with hv | hv
  · exact m.v_one v hv
  · obtain rfl := List.mem_singleton.1 hv; exact hs
def man0 : Man := ⟨0, 0, 0, List.replicate 32 0⟩
def stg0 : List Value := stgV man0 (.slice none 0 0)

theorem finish_spec (m : Man) (hs : m.sum.length = 32) (a : Option Addr) (n cap : Nat) (bs : List UInt8) (hn : n = bs.length) (hl : n ≤ 1000000) : Fun Tryd.prog 21 [.agg (stgV m (.slice a n cap)).toArray] [gErr, kV, iniV, slR 1 a n cap (bsV bs)] []
    fun v H => ∃ a' cap' e, v = .tuple #[.slice a' (progL m bs).length cap', e] ∧ oneC e = true ∧ H = [sl 4 a' (progL m bs).length cap' (inssV (progL m bs)), chain (progF m bs) e] := by
  subst hn
  refine xenter (p := pg) Tryd.call21 Tryd.func21 fun C => ?_
  haveI : RP C gErr := RP.of C (by simp)
  haveI : RP C kV := RP.of C (by simp)
  haveI : RP C iniV := RP.of C (by simp)
  haveI hr := RP.slR (RP.of C (X := slR 1 a bs.length cap (bsV bs)) (by simp))
  repeat (first | refine xst ?_ | refine xar ?_ | refine xop ?_ | refine xlen ?_ | refine xld rfl ?_ | refine xsto rfl ?_ | refine xno ?_ | refine xt ?_ | refine xf ?_)
  refine xnew fun b => ?_
  refine xrep 0 (stgV m (.slice a bs.length cap)) rfl rfl ?_
  repeat (first | refine xst ?_ | refine xar ?_ | refine xop ?_ | refine xlen ?_ | refine xld rfl ?_ | refine xsto rfl ?_ | refine xno ?_ | refine xt ?_ | refine xf ?_)
  refine xld rfl ?_ (hv := stgV_man hs _ rfl rfl)
  repeat (first | refine xst ?_ | refine xar ?_ | refine xop ?_ | refine xlen ?_ | refine xld rfl ?_ | refine xsto rfl ?_ | refine xno ?_ | refine xt ?_ | refine xf ?_)
  refine xld rfl ?_ (hv := stgV_got hs _ rfl)
  refine xcall (program_spec m hs a bs.length cap bs rfl hl) ?_
  rintro v H ⟨a', cap', e, rfl, he, rfl⟩
  refine G.app ?_
  repeat (first | refine xst ?_ | refine xar ?_ | refine xop ?_ | refine xlen ?_ | refine xld rfl ?_ | refine xsto rfl ?_ | refine xno ?_ | refine xt ?_ | refine xf ?_)
  refine xretp [0, 0] ?_
  exact ⟨a', cap', e, rfl, he, rfl⟩

theorem icheck_spec (m : Man) (hs : m.sum.length = 32) (a : Option Addr) (n cap : Nat) (bs : List UInt8) (hn : n = bs.length) (hl : n ≤ 1000000) : Fun Tryd.prog 26 [.agg m.v.toArray, .slice a n cap] [gErr, kV, iniV, slR 1 a n cap (bsV bs)] []
    fun v H => oneC v = true ∧ H = [chain (progF m bs) v] := by
  subst hn
  refine xenter (p := pg) Tryd.call26 Tryd.func26 fun C => ?_
  haveI : RP C gErr := RP.of C (by simp)
  haveI : RP C kV := RP.of C (by simp)
  haveI : RP C iniV := RP.of C (by simp)
  haveI hr := RP.slR (RP.of C (X := slR 1 a bs.length cap (bsV bs)) (by simp))
  have hml := Man.v_len hs
  repeat (first | refine xst ?_ | refine xar ?_ | refine xop ?_ | refine xlen ?_ | refine xld rfl ?_ | refine xsto rfl ?_ | refine xno ?_ | refine xt ?_ | refine xf ?_)
  refine xnew fun b => ?_
  refine xrep 0 m.v rfl rfl ?_
  repeat (first | refine xst ?_ | refine xar ?_ | refine xop ?_ | refine xlen ?_ | refine xld rfl ?_ | refine xsto rfl ?_ | refine xno ?_ | refine xt ?_ | refine xf ?_)
  refine xld rfl ?_ (hv := partF_all rfl hml)
  repeat (first | refine xst ?_ | refine xar ?_ | refine xop ?_ | refine xlen ?_ | refine xld rfl ?_ | refine xsto rfl ?_ | refine xno ?_ | refine xt ?_ | refine xf ?_)
  refine xcall (program_spec m hs a bs.length cap bs rfl hl) ?_
  rintro v H ⟨a', cap', e, rfl, he, rfl⟩
  refine G.app ?_
  repeat (first | refine xst ?_ | refine xar ?_ | refine xop ?_ | refine xlen ?_ | refine xld rfl ?_ | refine xsto rfl ?_ | refine xno ?_ | refine xt ?_ | refine xf ?_)
  refine xretp [1] ?_
  exact ⟨he, rfl⟩

theorem begin_spec (m : Man) (hs : m.sum.length = 32) : Fun Tryd.prog 16 [.agg m.v.toArray] [] []
    fun v H => v = .tuple #[.agg (if m.ok = true then stgV m (.slice none 0 0) else stg0).toArray, .int .i64 (if m.ok = true then 0 else 1)] ∧ H = [] := by
  refine xenter (p := pg) Tryd.call16 Tryd.func16 fun C => ?_
  have hml := Man.v_len hs
  have hsl := stgV_len hs (.slice none 0 0)
  repeat (first | refine xst ?_ | refine xar ?_ | refine xop ?_ | refine xlen ?_ | refine xld rfl ?_ | refine xsto rfl ?_ | refine xno ?_ | refine xt ?_ | refine xf ?_)
  refine xnew fun b => ?_
  refine xnew fun b2 => ?_
  refine xrep 1 m.v rfl rfl ?_
  refine xrep 1 stg0 rfl rfl ?_
  repeat (first | refine xst ?_ | refine xar ?_ | refine xop ?_ | refine xlen ?_ | refine xld rfl ?_ | refine xsto rfl ?_ | refine xno ?_ | refine xt ?_ | refine xf ?_)
  refine xld rfl ?_ (hv := partF_all rfl hml)
  refine xcall (valid_spec m hs) ?_
  rintro v H ⟨rfl, rfl⟩
  refine G.app ?_
  repeat (first | refine xst ?_ | refine xar ?_ | refine xop ?_ | refine xlen ?_ | refine xld rfl ?_ | refine xsto rfl ?_ | refine xno ?_ | refine xt ?_ | refine xf ?_)
  refine xb (fun h1 => ?_) (fun h1 => ?_)
  · have h1 : m.ok = false := by simpa using h1
    repeat (first | refine xst ?_ | refine xar ?_ | refine xop ?_ | refine xlen ?_ | refine xld rfl ?_ | refine xsto rfl ?_ | refine xno ?_ | refine xt ?_ | refine xf ?_)
    refine xrep 0 stg0 rfl rfl ?_
    refine xretm [] rfl (.c (.t .nil) rfl rfl (partF_all rfl rfl)) ?_
    rw [if_neg (by rw [h1]; simp), if_neg (by rw [h1]; simp)]
    exact ⟨rfl, rfl⟩
  · have h1 : m.ok = true := by simpa using h1
    repeat (first | refine xst ?_ | refine xar ?_ | refine xop ?_ | refine xlen ?_ | refine xld rfl ?_ | refine xsto rfl ?_ | refine xno ?_ | refine xt ?_ | refine xf ?_)
    refine xld rfl ?_ (hv := partF_all rfl hml)
    refine xbuild (stgV m (.slice none 0 0)) rfl (fillF_cons rfl hml (by exact Nat.le_of_ble_eq_true rfl) (congrArg some rfl)) ?_
    refine xsta (cs := stgV m (.slice none 0 0)) rfl hsl (stgV_one m rfl) (stgV m (.slice none 0 0)) (put_all (by rw [hsl]; rfl)) (by rw [hsl]; exact Nat.le_of_ble_eq_true rfl) ?_
    repeat (first | refine xst ?_ | refine xar ?_ | refine xop ?_ | refine xlen ?_ | refine xld rfl ?_ | refine xsto rfl ?_ | refine xno ?_ | refine xt ?_ | refine xf ?_)
    refine xretm [] rfl (.c (.t .nil) rfl rfl (partF_all rfl hsl)) ?_
    rw [if_pos h1, if_pos h1]
    exact ⟨rfl, rfl⟩

theorem putk_spec (n k : Nat) (h1 : 1 ≤ k) (h8 : k ≤ 8) (hn : n < 18446744073709551616) : Fun Tryd.prog 52 [.int .u64 (n : Int), .int .i64 (k : Int)] [] []
    fun v H => ∃ a cap, v = .slice a k cap ∧ H = [sl 1 a k cap (bsV (putB n k))] := by
  refine (put_spec n k hn).mono ?_
  rintro v H ⟨a, cap, rfl, rfl⟩
  have e : putO n (k : Int) = putB n k := by unfold putO; rw [if_pos (by omega)]; rfl
  rw [e, putB_length]
  exact ⟨a, cap, rfl, rfl⟩
def encM (m : Man) : List UInt8 := if m.ok = true then [77] ++ putB m.part.toNat 1 ++ putB m.ver.toNat 4 ++ putB m.size.toNat 2 ++ m.sum else []
theorem iencode_spec (m : Man) (hs : m.sum.length = 32) : Fun Tryd.prog 30 [.agg m.v.toArray] [] []
    fun v H => ∃ a cap, v = .slice a (encM m).length cap ∧ H = [sl 1 a (encM m).length cap (bsV (encM m))] := by
  refine xenter (p := pg) Tryd.call30 Tryd.func30 fun C => ?_
  have hml := Man.v_len hs
  repeat (first | refine xst ?_ | refine xar ?_ | refine xop ?_ | refine xlen ?_ | refine xld rfl ?_ | refine xsto rfl ?_ | refine xno ?_ | refine xt ?_ | refine xf ?_)
  refine xnew fun b => ?_
  refine xrep 0 m.v rfl rfl ?_
  repeat (first | refine xst ?_ | refine xar ?_ | refine xop ?_ | refine xlen ?_ | refine xld rfl ?_ | refine xsto rfl ?_ | refine xno ?_ | refine xt ?_ | refine xf ?_)
  refine xld rfl ?_ (hv := partF_all rfl hml)
  refine xcall (valid_spec m hs) ?_
  rintro v H ⟨rfl, rfl⟩
  refine G.app ?_
  repeat (first | refine xst ?_ | refine xar ?_ | refine xop ?_ | refine xlen ?_ | refine xld rfl ?_ | refine xsto rfl ?_ | refine xno ?_ | refine xt ?_ | refine xf ?_)
  refine xb (fun h1 => ?_) (fun h1 => ?_)
  · have h1 : m.ok = false := by simpa using h1
    repeat (first | refine xst ?_ | refine xar ?_ | refine xop ?_ | refine xlen ?_ | refine xld rfl ?_ | refine xsto rfl ?_ | refine xno ?_ | refine xt ?_ | refine xf ?_)
    refine G.sln 1 ?_
    refine xretp [0] ?_
    have e : encM m = [] := by unfold encM; rw [if_neg (by rw [h1]; simp)]
    rw [e]
    exact ⟨none, 0, rfl, rfl⟩
  · have h1 : m.ok = true := by simpa using h1
    have hok : 0 ≤ m.part ∧ m.part < 8 ∧ 4 ≤ m.size ∧ m.size ≤ 512 := by
      unfold Man.ok at h1; rw [decide_eq_true_eq] at h1; omega
    repeat (first | refine xst ?_ | refine xar ?_ | refine xop ?_ | refine xlen ?_ | refine xld rfl ?_ | refine xsto rfl ?_ | refine xno ?_ | refine xt ?_ | refine xf ?_)
    refine xmake 0 40 rfl rfl rfl (by omega) (by omega) (by omega) fun b2 => ?_
    repeat (first | refine xst ?_ | refine xar ?_ | refine xop ?_ | refine xlen ?_ | refine xld rfl ?_ | refine xsto rfl ?_ | refine xno ?_ | refine xt ?_ | refine xf ?_)
    refine xbsl fun b3 => ?_
    refine xapp (zeros 0 [.int .u8 0]) rfl (SrcOk.blk (ys := bsV [77]) rfl (by simp) (bsV_one _)) (by omega) fun a1 c1 => ?_
    repeat (refine xnot 14 ?_; first | refine xst ?_ | refine xar ?_ | refine xop ?_ | refine xlen ?_ | refine xld rfl ?_ | refine xsto rfl ?_ | refine xno ?_ | refine xt ?_ | refine xf ?_)
    refine xE 14 (.int .u64 (m.part.toNat : Int)) rfl (congrArg (Value.int .u64) (by rw [show m.part = (m.part.toNat : Int) by omega, u64_wrap (by omega)]; simp)) ?_
    refine xcall (putk_spec m.part.toNat 1 (by omega) (by omega) (by omega)) ?_
    rintro v H ⟨p1, pc1, rfl, rfl⟩
    refine G.app ?_
    refine xapp (zeros 0 [.int .u8 0] ++ bsV [77]) rfl (SrcOk.sl (ys := bsV (putB m.part.toNat 1)) (by rw [bsV_length, putB_length]) (bsV_one _)) (by omega) fun a2 c2 => ?_
    repeat (refine xnot 20 ?_; first | refine xst ?_ | refine xar ?_ | refine xop ?_ | refine xlen ?_ | refine xld rfl ?_ | refine xsto rfl ?_ | refine xno ?_ | refine xt ?_ | refine xf ?_)
    have hv := m.ver.toNat_lt
    refine xE 20 (.int .u64 (m.ver.toNat : Int)) rfl (congrArg (Value.int .u64) (u64_wrap (by omega))) ?_
    refine xcall (putk_spec m.ver.toNat 4 (by omega) (by omega) (by omega)) ?_
    rintro v H ⟨p2, pc2, rfl, rfl⟩
    refine G.app ?_
    refine xapp (zeros 0 [.int .u8 0] ++ bsV [77] ++ bsV (putB m.part.toNat 1)) rfl (SrcOk.sl (ys := bsV (putB m.ver.toNat 4)) (by rw [bsV_length, putB_length]) (bsV_one _)) (by omega) fun a3 c3 => ?_
    repeat (refine xnot 26 ?_; first | refine xst ?_ | refine xar ?_ | refine xop ?_ | refine xlen ?_ | refine xld rfl ?_ | refine xsto rfl ?_ | refine xno ?_ | refine xt ?_ | refine xf ?_)
    refine xE 26 (.int .u64 (m.size.toNat : Int)) rfl (congrArg (Value.int .u64) (by rw [show m.size = (m.size.toNat : Int) by omega, u64_wrap (by omega)]; simp)) ?_
    refine xcall (putk_spec m.size.toNat 2 (by omega) (by omega) (by omega)) ?_
    rintro v H ⟨p3, pc3, rfl, rfl⟩
    refine G.app ?_
    refine xapp (zeros 0 [.int .u8 0] ++ bsV [77] ++ bsV (putB m.part.toNat 1) ++ bsV (putB m.ver.toNat 4)) rfl (SrcOk.sl (ys := bsV (putB m.size.toNat 2)) (by rw [bsV_length, putB_length]) (bsV_one _)) (by omega) fun a4 c4 => ?_
    repeat (first | refine xst ?_ | refine xar ?_ | refine xop ?_ | refine xlen ?_ | refine xld rfl ?_ | refine xsto rfl ?_ | refine xno ?_ | refine xt ?_ | refine xf ?_)
    refine xslice 0 32 rfl rfl rfl (by omega) (by omega) ?_
    refine xE 31 (.slice (some ⟨b, 3, none⟩) 32 32) rfl (congrArg (fun z => Value.slice z 32 32) ((subA_lt (by omega)).trans rfl)) ?_
    refine xapp (zeros 0 [.int .u8 0] ++ bsV [77] ++ bsV (putB m.part.toNat 1) ++ bsV (putB m.ver.toNat 4) ++ bsV (putB m.size.toNat 2)) rfl (SrcOk.blk (ys := bsV m.sum) (by show (bsV m.sum).take 32 = _; rw [List.take_of_length_le (by rw [bsV_length, hs]; exact Nat.le_refl _)]) (by rw [hml]; exact Nat.le_of_ble_eq_true rfl) (bsV_one _)) (by omega) fun a5 c5 => ?_
    repeat (first | refine xst ?_ | refine xar ?_ | refine xop ?_ | refine xlen ?_ | refine xld rfl ?_ | refine xsto rfl ?_ | refine xno ?_ | refine xt ?_ | refine xf ?_)
    refine xretp [0] ?_
    have e : encM m = [77] ++ putB m.part.toNat 1 ++ putB m.ver.toNat 4 ++ putB m.size.toNat 2 ++ m.sum := by unfold encM; rw [if_pos h1]
    have el : (encM m).length = 40 := by rw [e]; simp [putB_length, hs]
    rw [el, e]
    simp only [bsV_append]
    exact ⟨a5, c5, rfl, rfl⟩
end Go.Proofs.YthlaacnjgdmakaaDoor

/- bytes.Join of two pieces. -/
namespace Go.Proofs.YthlaacnjgdmakaaDoor
open Go.W

theorem noz_ext (n : Nat) (hn : n ≤ 281474976710656) : Ext Tryd.prog 71 [.int .i64 n] fun v H => ∃ (b : Nat) (cs : List Value), n ≤ cs.length ∧ v = .slice (some ⟨b, 0, none⟩) n cs.length ∧ H = [pts b cs] :=
  noZero_ext #[3] (t := 25) (e := 5) Tryd.underlying25 hn (fun w => callFunc_ext Tryd.func71 (by kernel_rfl) rfl (by kernel_rfl) (by kernel_rfl))
def totF (n1 n2 : Nat) : Nat → Nat
  | 0 => 0
  | 1 => n1
  | _ => n1 + n2
theorem join_spec (pb : Nat) (a1 a2 : Option Addr) (n1 c1 n2 c2 : Nat) (xs ys : List UInt8) (h1 : n1 = xs.length) (h2 : n2 = ys.length) (hl : n1 + n2 ≤ 100000000) :
    Fun Tryd.prog 41 [.slice (some ⟨pb, 0, none⟩) 2 2, .slice none 0 0] [rdb pb [.slice a1 n1 c1, .slice a2 n2 c2], slR 1 a1 n1 c1 (bsV xs), slR 1 a2 n2 c2 (bsV ys)] []
    fun v H => ∃ b, v = .slice (some ⟨b, 0, none⟩) (n1 + n2) (n1 + n2) ∧ H = [sl 1 (some ⟨b, 0, none⟩) (n1 + n2) (n1 + n2) (bsV (xs ++ ys))] := by
  refine xenter (p := pg) Tryd.call41 Tryd.func41 fun C => ?_
  haveI := RB.of C (b := pb) (l := [.slice a1 n1 c1, .slice a2 n2 c2]) (by simp)
  have hr1 := RP.slR (RP.of C (X := slR 1 a1 n1 c1 (bsV xs)) (by simp))
  have hr2 := RP.slR (RP.of C (X := slR 1 a2 n2 c2 (bsV ys)) (by simp))
  repeat (first | refine xst ?_ | refine xar ?_ | refine xop ?_ | refine xlen ?_ | refine xld rfl ?_ | refine xsto rfl ?_ | refine xno ?_ | refine xt ?_ | refine xf ?_)
  refine G.loop (σ := Nat) (fun k => [(0, .slice (some ⟨pb, 0, none⟩) 2 2), (1, .slice none 0 0), (5, .int .i64 (totF n1 n2 k : Int)), (42, .slice (some ⟨pb, 0, none⟩) 2 2), (43, .int .i64 2), (44, .int .i64 (k : Int))])
    (fun _ => []) (fun k => k ≤ 2) (fun k => 2 - k) 0 (Nat.zero_le _) ⟨rfl, rfl, rfl, rfl, rfl, rfl, trivial⟩ (Ent.refl _) ?_
  intro k hk
  repeat (first | refine xst ?_ | refine xar ?_ | refine xop ?_ | refine xlen ?_ | refine xld rfl ?_ | refine xsto rfl ?_ | refine xno ?_ | refine xt ?_ | refine xf ?_)
  refine xd (fun h3 => ?_) (fun h3 => ?_)
  · obtain rfl | rfl : k = 0 ∨ k = 1 := by omega
    · refine xE 5 (.int .i64 0) rfl rfl ?_
      repeat (first | refine xst ?_ | refine xar ?_ | refine xop ?_ | refine xlen ?_ | refine xld rfl ?_ | refine xsto rfl ?_ | refine xno ?_ | refine xt ?_ | refine xf ?_)
      refine xix ?_ (hk := Nat.le_of_ble_eq_true rfl)
      repeat (first | refine xst ?_ | refine xar ?_ | refine xop ?_ | refine xlen ?_ | refine xld rfl ?_ | refine xsto rfl ?_ | refine xno ?_ | refine xt ?_ | refine xf ?_)
      refine xd (fun h4 => ?_) (fun h4 => ?_)
      · omega
      repeat (first | refine xst ?_ | refine xar ?_ | refine xop ?_ | refine xlen ?_ | refine xld rfl ?_ | refine xsto rfl ?_ | refine xno ?_ | refine xt ?_ | refine xf ?_)
      refine xE 5 (.int .i64 (n1 : Int)) rfl (by rw [Int.zero_add]) ?_
      exact G.fin 1 ⟨by omega, by omega⟩ ⟨rfl, rfl, rfl, rfl, rfl, rfl, trivial⟩ ent_pick
    · refine xE 5 (.int .i64 (n1 : Int)) rfl rfl ?_
      repeat (first | refine xst ?_ | refine xar ?_ | refine xop ?_ | refine xlen ?_ | refine xld rfl ?_ | refine xsto rfl ?_ | refine xno ?_ | refine xt ?_ | refine xf ?_)
      refine xix ?_ (hk := Nat.le_of_ble_eq_true rfl)
      repeat (first | refine xst ?_ | refine xar ?_ | refine xop ?_ | refine xlen ?_ | refine xld rfl ?_ | refine xsto rfl ?_ | refine xno ?_ | refine xt ?_ | refine xf ?_)
      refine xd (fun h4 => ?_) (fun h4 => ?_)
      · omega
      repeat (first | refine xst ?_ | refine xar ?_ | refine xop ?_ | refine xlen ?_ | refine xld rfl ?_ | refine xsto rfl ?_ | refine xno ?_ | refine xt ?_ | refine xf ?_)
      refine xE 5 (.int .i64 ((n1 + n2 : Nat) : Int)) rfl (by rw [Int.natCast_add]) ?_
      exact G.fin 2 ⟨by omega, by omega⟩ ⟨rfl, rfl, rfl, rfl, rfl, rfl, trivial⟩ ent_pick
  · obtain rfl : k = 2 := by omega
    refine xE 5 (.int .i64 ((n1 + n2 : Nat) : Int)) rfl rfl ?_
    repeat (first | refine xst ?_ | refine xar ?_ | refine xop ?_ | refine xlen ?_ | refine xld rfl ?_ | refine xsto rfl ?_ | refine xno ?_ | refine xt ?_ | refine xf ?_)
    refine xext (noz_ext (n1 + n2) (by omega)) ?_
    rintro v H ⟨b, cs, hcs, rfl, rfl⟩
    refine G.app ?_
    repeat (first | refine xst ?_ | refine xar ?_ | refine xop ?_ | refine xlen ?_ | refine xld rfl ?_ | refine xsto rfl ?_ | refine xno ?_ | refine xt ?_ | refine xf ?_)
    refine xslice3 (n1 + n2) (n1 + n2) rfl rfl rfl (Nat.le_refl _) hcs ?_
    repeat (first | refine xst ?_ | refine xar ?_ | refine xop ?_ | refine xlen ?_ | refine xld rfl ?_ | refine xsto rfl ?_ | refine xno ?_ | refine xt ?_ | refine xf ?_)
    refine xix ?_ (hk := Nat.le_of_ble_eq_true rfl)
    repeat (first | refine xst ?_ | refine xar ?_ | refine xop ?_ | refine xlen ?_ | refine xld rfl ?_ | refine xsto rfl ?_ | refine xno ?_ | refine xt ?_ | refine xf ?_)
    have hxl : (bsV xs).length = n1 := by rw [bsV_length, h1]
    have hyl : (bsV ys).length = n2 := by rw [bsV_length, h2]
    refine xcopy rfl (SrcOk.rs hr1 (bsV_one _)) n1 (Nat.min_eq_left (by omega)) (bsV xs ++ cs.drop n1) (by rw [Nat.mul_one, List.take_zero, List.nil_append, List.take_of_length_le (by omega), Nat.zero_add]) (by omega) ?_
    repeat (first | refine xst ?_ | refine xar ?_ | refine xop ?_ | refine xlen ?_ | refine xld rfl ?_ | refine xsto rfl ?_ | refine xno ?_ | refine xt ?_ | refine xf ?_)
    refine xslice 1 2 rfl rfl rfl (by omega) (by omega) ?_
    refine xE 70 (.slice (some ⟨pb, 1, none⟩) 1 1) rfl (congrArg (fun z => Value.slice z 1 1) (subA_lt (by omega))) ?_
    repeat (first | refine xst ?_ | refine xar ?_ | refine xop ?_ | refine xlen ?_ | refine xld rfl ?_ | refine xsto rfl ?_ | refine xno ?_ | refine xt ?_ | refine xf ?_)
    refine G.loop (σ := Nat) (fun k => [(1, .slice none 0 0), (8, .slice (some ⟨b, 0, none⟩) (n1 + n2) (n1 + n2)), (9, .int .i64 ((if k = 0 then n1 else n1 + n2 : Nat) : Int)), (70, .slice (some ⟨pb, 1, none⟩) 1 1), (71, .int .i64 1), (72, .int .i64 (k : Int))])
      (fun k => [pts b (if k = 0 then bsV xs ++ cs.drop n1 else bsV xs ++ bsV ys ++ cs.drop (n1 + n2))]) (fun k => k ≤ 1) (fun k => 1 - k) 0 (Nat.zero_le _) ⟨rfl, rfl, rfl, rfl, rfl, rfl, trivial⟩ (Ent.refl _) ?_
    intro k hk2
    obtain rfl | rfl : k = 0 ∨ k = 1 := by omega
    · refine xrep 0 (bsV xs ++ cs.drop n1) rfl rfl ?_
      refine xE 9 (.int .i64 (n1 : Int)) rfl rfl ?_
      repeat (first | refine xst ?_ | refine xar ?_ | refine xop ?_ | refine xlen ?_ | refine xld rfl ?_ | refine xsto rfl ?_ | refine xno ?_ | refine xt ?_ | refine xf ?_)
      refine xix ?_ (hk := Nat.le_of_ble_eq_true rfl)
      repeat (first | refine xst ?_ | refine xar ?_ | refine xop ?_ | refine xlen ?_ | refine xld rfl ?_ | refine xsto rfl ?_ | refine xno ?_ | refine xt ?_ | refine xf ?_)
      refine xslice n1 (n1 + n2) rfl rfl rfl (by omega) (by omega) ?_
      obtain ⟨off, ho, hoff⟩ : ∃ off, subA (some ⟨b, 0, none⟩) n1 1 (n1 + n2) = some ⟨b, off, none⟩ ∧ (off = n1 ∨ (n2 = 0 ∧ off = 0)) := by
        by_cases h0 : n2 = 0
        · exact ⟨0, by unfold subA; rw [if_pos (by omega)], .inr ⟨h0, rfl⟩⟩
        · exact ⟨n1, by rw [subA_lt (by omega)]; simp, .inl rfl⟩
      have hdst : Value.slice (subA (some ⟨b, 0, none⟩) n1 1 (n1 + n2)) (n1 + n2 - n1) (n1 + n2 - n1) = .slice (some ⟨b, off, none⟩) n2 n2 := by
        rw [ho, Nat.add_sub_cancel_left]
      have hrow : (bsV xs ++ cs.drop n1).length = cs.length := by rw [List.length_append, hxl, List.length_drop]; omega
      refine xE 79 (.slice (some ⟨b, off, none⟩) n2 n2) rfl hdst ?_
      repeat (first | refine xst ?_ | refine xar ?_ | refine xop ?_ | refine xlen ?_ | refine xld rfl ?_ | refine xsto rfl ?_ | refine xno ?_ | refine xt ?_ | refine xf ?_)
      refine xcopy rfl (SrcOk.nil) 0 (Nat.zero_min _) (bsV xs ++ cs.drop n1) (by simp) (by rw [hrow]; omega) ?_
      repeat (refine xnot 82 ?_; first | refine xst ?_ | refine xar ?_ | refine xop ?_ | refine xlen ?_ | refine xld rfl ?_ | refine xsto rfl ?_ | refine xno ?_ | refine xt ?_ | refine xf ?_)
      refine xE 82 (.int .i64 (n1 : Int)) rfl (by simp) ?_
      repeat (first | refine xst ?_ | refine xar ?_ | refine xop ?_ | refine xlen ?_ | refine xld rfl ?_ | refine xsto rfl ?_ | refine xno ?_ | refine xt ?_ | refine xf ?_)
      refine xslice n1 (n1 + n2) rfl rfl rfl (by omega) (by omega) ?_
      refine xE 86 (.slice (some ⟨b, off, none⟩) n2 n2) rfl hdst ?_
      repeat (first | refine xst ?_ | refine xar ?_ | refine xop ?_ | refine xlen ?_ | refine xld rfl ?_ | refine xsto rfl ?_ | refine xno ?_ | refine xt ?_ | refine xf ?_)
      have hput : (bsV xs ++ cs.drop n1).take off ++ (bsV ys).take (n2 * 1) ++ (bsV xs ++ cs.drop n1).drop (off + n2 * 1) = bsV xs ++ bsV ys ++ cs.drop (n1 + n2) := by
        rw [Nat.mul_one, List.take_of_length_le (l := bsV ys) (by omega)]
        rcases hoff with rfl | ⟨h0, rfl⟩
        · rw [List.take_append_of_le_length (by omega), List.take_of_length_le (l := bsV xs) (by omega), List.drop_append, List.drop_eq_nil_of_le (by omega), List.nil_append, hxl, Nat.add_sub_cancel_left, List.drop_drop]
        · subst h0
          have : bsV ys = [] := List.eq_nil_of_length_eq_zero hyl
          rw [this]; simp
      refine xcopy rfl (SrcOk.rs hr2 (bsV_one _)) n2 (Nat.min_self _) (bsV xs ++ bsV ys ++ cs.drop (n1 + n2)) hput (by rw [hrow]; omega) ?_
      repeat (refine xnot 89 ?_; first | refine xst ?_ | refine xar ?_ | refine xop ?_ | refine xlen ?_ | refine xld rfl ?_ | refine xsto rfl ?_ | refine xno ?_ | refine xt ?_ | refine xf ?_)
      refine xE 89 (.int .i64 ((n1 + n2 : Nat) : Int)) rfl (by rw [Int.natCast_add]) ?_
      repeat (first | refine xst ?_ | refine xar ?_ | refine xop ?_ | refine xlen ?_ | refine xld rfl ?_ | refine xsto rfl ?_ | refine xno ?_ | refine xt ?_ | refine xf ?_)
      exact G.fin 1 ⟨by omega, by omega⟩ ⟨rfl, rfl, rfl, rfl, rfl, rfl, trivial⟩ (by show Ent _ [pts b (bsV xs ++ bsV ys ++ cs.drop (n1 + n2))]; exact ent_pick)
    · refine xrep 0 (bsV xs ++ bsV ys ++ cs.drop (n1 + n2)) rfl rfl ?_
      repeat (first | refine xst ?_ | refine xar ?_ | refine xop ?_ | refine xlen ?_ | refine xld rfl ?_ | refine xsto rfl ?_ | refine xno ?_ | refine xt ?_ | refine xf ?_)
      refine G.slc (pk := ⟨remN_ent (n := 0) rfl⟩) 1 b 0 (n1 + n2) (n1 + n2) (bsV xs ++ bsV ys) [] (cs.drop (n1 + n2)) (by simp) rfl (by rw [List.length_append, hxl, hyl, Nat.mul_one]) (Nat.le_refl _) (by rw [List.length_append, hxl, hyl, Nat.mul_one]; omega) ?_
      refine xretp [0] ?_
      exact ⟨b, rfl, by rw [bsV_append]⟩
end Go.Proofs.YthlaacnjgdmakaaDoor
