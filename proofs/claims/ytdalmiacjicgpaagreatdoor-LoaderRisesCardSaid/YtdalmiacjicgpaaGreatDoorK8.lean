/- Part of the proof: LSd, LSe, LIa, LIb, LIc, LJo, LCh, LDp -/
import Derived.Test.YtdalmiacjicgpaaGreatDoorK7
import Derived.Test.YtdalmiacjicgpaaGreatDoorK2
/- sha: the hash. -/
namespace Go.Proofs.YtdalmiacjicgpaaGreatDoor
open Go.W

structure HS where
  st : St
  rest : List UInt8
  len : Nat
def HS.v (h : HS) : List Value := wsV h.st.l ++ (bsV h.rest ++ [.int .i64 (h.len : Int)])
def hByte (h : HS) (x : UInt8) : HS :=
  if h.len % 64 = 63 then ⟨procS (h.rest.set (h.len % 64) x) h.st, h.rest.set (h.len % 64) x, h.len + 1⟩ else ⟨h.st, h.rest.set (h.len % 64) x, h.len + 1⟩
def hWrite (h : HS) (bs : List UInt8) : HS := bs.foldl hByte h
def hChunk (h : HS) (xs : List UInt8) : HS :=
  if h.len % 64 + xs.length = 64 then ⟨procS (h.rest.take (h.len % 64) ++ xs ++ h.rest.drop (h.len % 64 + xs.length)) h.st, h.rest.take (h.len % 64) ++ xs ++ h.rest.drop (h.len % 64 + xs.length), h.len + xs.length⟩
  else ⟨h.st, h.rest.take (h.len % 64) ++ xs ++ h.rest.drop (h.len % 64 + xs.length), h.len + xs.length⟩
theorem hByte_rest (h : HS) (x : UInt8) : (hByte h x).rest.length = h.rest.length := by unfold hByte; split <;> simp
theorem hByte_len (h : HS) (x : UInt8) : (hByte h x).len = h.len + 1 := by unfold hByte; split <;> rfl
theorem hWrite_rest : ∀ (bs : List UInt8) (h : HS), (hWrite h bs).rest.length = h.rest.length
  | [], h => rfl
  | x :: bs, h => by rw [hWrite, List.foldl_cons]; exact (hWrite_rest bs _).trans (hByte_rest h x)
theorem hWrite_len : ∀ (bs : List UInt8) (h : HS), (hWrite h bs).len = h.len + bs.length
  | [], h => rfl
  | x :: bs, h => by rw [hWrite, List.foldl_cons]; refine (hWrite_len bs _).trans ?_; rw [hByte_len, List.length_cons]; omega
theorem set_mid {l : List UInt8} {k : Nat} {x : UInt8} (h : k < l.length) : l.set k x = l.take k ++ [x] ++ l.drop (k + 1) := by
  rw [List.set_eq_take_append_cons_drop, if_pos h]; simp
theorem hWrite_chunk : ∀ (xs : List UInt8) (h : HS), h.rest.length = 64 → xs ≠ [] → h.len % 64 + xs.length ≤ 64 → hWrite h xs = hChunk h xs
  | [x], h, hr, _, hl => by
    have : h.len % 64 < 64 := Nat.mod_lt _ (by omega)
    show hByte h x = _
    unfold hByte hChunk
    rw [set_mid (by omega)]
    by_cases hc : h.len % 64 = 63
    · rw [if_pos hc, if_pos (by simp [hc])]; rfl
    · rw [if_neg hc, if_neg (by simp; omega)]; rfl
  | x :: y :: xs, h, hr, _, hl => by
    have h64 : h.len % 64 < 64 := Nat.mod_lt _ (by omega)
    simp only [List.length_cons] at hl
    have hm : (h.len + 1) % 64 = h.len % 64 + 1 := by omega
    show hWrite (hByte h x) (y :: xs) = _
    rw [hWrite_chunk (y :: xs) (hByte h x) (by rw [hByte_rest, hr]) (by simp) (by rw [hByte_len, hm]; simp only [List.length_cons]; omega)]
    have hb : hByte h x = ⟨h.st, h.rest.take (h.len % 64) ++ [x] ++ h.rest.drop (h.len % 64 + 1), h.len + 1⟩ := by
      unfold hByte; rw [if_neg (by omega), set_mid (by omega)]
    have ht : (h.rest.take (h.len % 64)).length = h.len % 64 := by rw [List.length_take]; omega
    have key : (h.rest.take (h.len % 64) ++ [x] ++ h.rest.drop (h.len % 64 + 1)).take (h.len % 64 + 1) ++ (y :: xs) ++ (h.rest.take (h.len % 64) ++ [x] ++ h.rest.drop (h.len % 64 + 1)).drop (h.len % 64 + 1 + (y :: xs).length)
        = h.rest.take (h.len % 64) ++ (x :: y :: xs) ++ h.rest.drop (h.len % 64 + (x :: y :: xs).length) := by
      rw [List.take_append_of_le_length (by simp [ht]), List.take_of_length_le (by simp [ht]), List.drop_append, List.drop_eq_nil_of_le (by simp [ht]), List.nil_append, List.drop_drop]
      simp only [List.length_append, ht, List.length_cons, List.length_nil, List.append_assoc, List.cons_append, List.nil_append]
      congr 5
      omega
    unfold hChunk
    rw [hb]
    simp only [hm]
    rw [key]
    have e1 : h.len % 64 + 1 + (y :: xs).length = h.len % 64 + (x :: y :: xs).length := by simp only [List.length_cons]; omega
    have e2 : h.len + 1 + (y :: xs).length = h.len + (x :: y :: xs).length := by simp only [List.length_cons]; omega
    rw [e1, e2]
theorem hWrite_append (h : HS) (xs ys : List UInt8) : hWrite h (xs ++ ys) = hWrite (hWrite h xs) ys := by simp [hWrite]

theorem HS.v_len {u : HS} (h : u.rest.length = 64) : u.v.length = 73 := by
  unfold HS.v; rw [List.length_append, List.length_append, wsV_length, bsV_length, h]; rfl
theorem HS.v_at {u : HS} (h : u.rest.length = 64) : u.v[72]? = some (.int .i64 (u.len : Int)) := by
  have : (wsV u.st.l).length = 8 := rfl
  unfold HS.v
  rw [List.getElem?_append_right (by omega), this, List.getElem?_append_right (by rw [bsV_length]; omega), bsV_length, h]; rfl
theorem HS.v_rest {u : HS} (h : u.rest.length = 64) : (u.v.drop 8).take 64 = bsV u.rest := by
  show (bsV u.rest ++ [Value.int .i64 (u.len : Int)]).take 64 = _
  rw [List.take_append_of_le_length (by rw [bsV_length]; omega), List.take_of_length_le (by rw [bsV_length]; omega)]
theorem HS.v_part {u : HS} (h : u.rest.length = 64) {i : TI} (ha : i.agg = true) (hs : i.size = 64) : partF i u.v (0 + 8) = some (.agg (bsV u.rest).toArray) := by
  rw [partF_agg ha (by rw [HS.v_len h, hs]; exact Nat.le_of_ble_eq_true rfl), hs]
  exact congrArg (fun l : List Value => some (Value.agg l.toArray)) (HS.v_rest h)
theorem HS.v_st (u : HS) (s : St) : putF (0 + 0) (wsV s.l) u.v = some (HS.v ⟨s, u.rest, u.len⟩) := by
  rw [putF_of (by unfold HS.v; rw [List.length_append]; exact Nat.le_trans (show 0 + 0 + 8 ≤ 8 by omega) (Nat.le_add_right _ _))]
  rfl
/-- The rest, put anew from 'used' on. -/
theorem HS.v_put {u : HS} (h : u.rest.length = 64) (k n : Nat) (xs : List UInt8) (hx : xs.length = n) (hk : k + n ≤ 64) :
    u.v.take (8 + k) ++ bsV xs ++ u.v.drop (8 + k + n) = HS.v ⟨u.st, u.rest.take k ++ xs ++ u.rest.drop (k + n), u.len⟩ := by
  have h8 : (wsV u.st.l).length = 8 := rfl
  unfold HS.v
  rw [List.take_append, List.take_of_length_le (by omega), h8, show 8 + k - 8 = k by omega, List.take_append_of_le_length (by rw [bsV_length]; omega), bsV_take,
    List.drop_append, List.drop_eq_nil_of_le (by omega), List.nil_append, h8, show 8 + k + n - 8 = k + n by omega, List.drop_append_of_le_length (by rw [bsV_length]; omega), bsV_drop]
  simp only [bsV_append, List.append_assoc]
theorem HS.v_set {u : HS} (h : u.rest.length = 64) (m : Nat) : u.v.set 72 (.int .i64 (m : Int)) = HS.v ⟨u.st, u.rest, m⟩ := by
  have h8 : (wsV u.st.l).length = 8 := rfl
  unfold HS.v
  rw [List.set_append_right _ _ (by omega), h8, List.set_append_right _ _ (by rw [bsV_length]; omega), bsV_length, h]
  rfl
structure WrSt where
  k : Nat
  a : Option Addr
  cap : Nat
theorem write_spec (q : Nat) (a : Option Addr) (n cap : Nat) (bs : List UInt8) (h : HS) (hn : n = bs.length) (hr : h.rest.length = 64) (hl : h.len + bs.length ≤ 1000000000) :
    Fun Tryz.prog 81 [.pointer (some ⟨q, 0, none⟩), .slice a n cap] [kV, slR 1 a n cap (bsV bs)] [pts q h.v] fun v H => v = .tuple #[] ∧ H = [pts q (hWrite h bs).v] := by
  subst hn
  refine xenter (p := pg) Tryz.call81 Tryz.func81 fun C => ?_
  haveI := RB.of C (b := 1) (l := wsV kL) (by simp [kV])
  haveI : RP C kV := RP.of C (by simp)
  have hs := RP.slR (RP.of C (X := slR 1 a bs.length cap (bsV bs)) (by simp))
  repeat (first | refine xst ?_ | refine xar ?_ | refine xop ?_ | refine xlen ?_ | refine xld rfl ?_ | refine xsto rfl ?_ | refine xno ?_ | refine xt ?_ | refine xf ?_)
  refine G.loop (σ := WrSt) (fun s => [(0, .pointer (some ⟨q, 0, none⟩)), (1, .slice s.a (bs.length - s.k) s.cap)]) (fun s => [pts q (hWrite h (bs.take s.k)).v])
    (fun s => s.k ≤ bs.length ∧ RS C 1 s.a (bs.length - s.k) s.cap (bsV (bs.drop s.k))) (fun s => bs.length - s.k) ⟨0, a, cap⟩ ⟨Nat.zero_le _, hs⟩ ⟨rfl, rfl, trivial⟩ (Ent.refl _) ?_
  rintro ⟨k, a', cap'⟩ ⟨hk, hrs⟩
  have hk : k ≤ bs.length := hk
  have hrs : RS C 1 a' (bs.length - k) cap' (bsV (bs.drop k)) := hrs
  show G C _ [(0, .pointer (some ⟨q, 0, none⟩)), (1, .slice a' (bs.length - k) cap')] [pts q (hWrite h (bs.take k)).v]
  obtain ⟨u, hu⟩ : ∃ u, hWrite h (bs.take k) = u := ⟨_, rfl⟩
  have hur : u.rest.length = 64 := by rw [← hu, hWrite_rest, hr]
  have hul : u.len = h.len + k := by rw [← hu, hWrite_len, List.length_take, Nat.min_eq_left hk]
  refine xrep 0 u.v rfl (by rw [hu]) ?_
  repeat (first | refine xst ?_ | refine xar ?_ | refine xop ?_ | refine xlen ?_ | refine xld rfl ?_ | refine xsto rfl ?_ | refine xno ?_ | refine xt ?_ | refine xf ?_)
  refine xd (fun h1 => ?_) (fun h1 => ?_)
  · have hk' : k < bs.length := by omega
    have hu64 : u.len % 64 < 64 := Nat.mod_lt _ (by omega)
    have hmod : ((u.len : Int).tmod (Int.ofNat (63 + 1))) = ((u.len % 64 : Nat) : Int) := rfl
    repeat (first | refine xst ?_ | refine xar ?_ | refine xop ?_ | refine xlen ?_ | refine xld rfl ?_ | refine xsto rfl ?_ | refine xno ?_ | refine xt ?_ | refine xf ?_)
    refine xld rfl ?_ (hv := partF_one rfl (HS.v_at hur))
    repeat (refine xnot 13 ?_; first | refine xst ?_ | refine xar ?_ | refine xop ?_ | refine xlen ?_ | refine xld rfl ?_ | refine xsto rfl ?_ | refine xno ?_ | refine xt ?_ | refine xf ?_)
    refine xE 13 (.int .i64 ((u.len % 64 : Nat) : Int)) rfl (congrArg (Value.int .i64) hmod) ?_
    repeat (first | refine xst ?_ | refine xar ?_ | refine xop ?_ | refine xlen ?_ | refine xld rfl ?_ | refine xsto rfl ?_ | refine xno ?_ | refine xt ?_ | refine xf ?_)
    refine xslice (u.len % 64) 64 rfl rfl rfl (by omega) (Nat.le_refl _) ?_
    refine xE 18 (.slice (some ⟨q, 8 + u.len % 64, none⟩) (64 - u.len % 64) (64 - u.len % 64)) rfl (congrArg (fun z => Value.slice z (64 - u.len % 64) (64 - u.len % 64)) ((subA_lt hu64).trans (congrArg (fun o => some (Addr.mk q o none)) (by rw [Nat.zero_add]; exact congrArg (8 + ·) (Nat.mul_one _))))) ?_
    repeat (first | refine xst ?_ | refine xar ?_ | refine xop ?_ | refine xlen ?_ | refine xld rfl ?_ | refine xsto rfl ?_ | refine xno ?_ | refine xt ?_ | refine xf ?_)
    obtain ⟨n, hn⟩ : ∃ n, Nat.min (bs.length - k) (64 - u.len % 64) = n := ⟨_, rfl⟩
    have hn1 : 1 ≤ n ∧ n ≤ bs.length - k ∧ n ≤ 64 - u.len % 64 := by subst hn; exact ⟨Nat.le_min.2 ⟨by omega, by omega⟩, Nat.min_le_left _ _, Nat.min_le_right _ _⟩
    obtain ⟨xs, hxs⟩ : ∃ xs, (bs.drop k).take n = xs := ⟨_, rfl⟩
    have hxl : xs.length = n := by rw [← hxs, List.length_take, List.length_drop]; omega
    obtain ⟨r1, hr1⟩ : ∃ r1, u.rest.take (u.len % 64) ++ xs ++ u.rest.drop (u.len % 64 + n) = r1 := ⟨_, rfl⟩
    have hr1l : r1.length = 64 := by rw [← hr1]; simp [hxl, hur]; omega
    refine xcopy rfl (SrcOk.rs hrs (bsV_one _)) n hn (HS.v ⟨u.st, r1, u.len⟩) (by
      rw [Nat.mul_one, bsV_take, hxs, HS.v_put hur _ n xs hxl (by omega), hr1]) (by rw [HS.v_len hur]; omega) ?_
    repeat (first | refine xst ?_ | refine xar ?_ | refine xop ?_ | refine xlen ?_ | refine xld rfl ?_ | refine xsto rfl ?_ | refine xno ?_ | refine xt ?_ | refine xf ?_)
    refine xslice n (bs.length - k) rfl rfl rfl hn1.2.1 hrs.len.2 ?_
    refine xE 23 (.slice (subA a' n 1 cap') (bs.length - (k + n)) (cap' - n)) rfl (by rw [show bs.length - k - n = bs.length - (k + n) by omega]; rfl) ?_
    repeat (first | refine xst ?_ | refine xar ?_ | refine xop ?_ | refine xlen ?_ | refine xld rfl ?_ | refine xsto rfl ?_ | refine xno ?_ | refine xt ?_ | refine xf ?_)
    refine xld rfl ?_ (hv := partF_one rfl (HS.v_at hr1l))
    refine xE 27 (.int .i64 (u.len : Int)) rfl rfl ?_
    repeat (refine xnot 29 ?_; first | refine xst ?_ | refine xar ?_ | refine xop ?_ | refine xlen ?_ | refine xld rfl ?_ | refine xsto rfl ?_ | refine xno ?_ | refine xt ?_ | refine xf ?_)
    refine xE 29 (.int .i64 ((u.len + n : Nat) : Int)) rfl (by rw [Int.natCast_add]) ?_
    repeat (first | refine xst ?_ | refine xar ?_ | refine xop ?_ | refine xlen ?_ | refine xld rfl ?_ | refine xsto rfl ?_ | refine xno ?_ | refine xt ?_ | refine xf ?_)
    refine xsto rfl ?_ (hm := (putF_one (by rw [HS.v_len hr1l]; exact Nat.le_of_ble_eq_true rfl)).trans (congrArg some (HS.v_set hr1l (u.len + n))))
    repeat (first | refine xst ?_ | refine xar ?_ | refine xop ?_ | refine xlen ?_ | refine xld rfl ?_ | refine xsto rfl ?_ | refine xno ?_ | refine xt ?_ | refine xf ?_)
    have hstep : hWrite h (bs.take (k + n)) = hChunk u xs := by
      have e : bs.take (k + n) = bs.take k ++ xs := by rw [← hxs, List.take_add]
      rw [e, hWrite_append, hu, hWrite_chunk xs u hur (by intro e; rw [e] at hxl; simp at hxl; omega) (by omega)]
    have hnext : RS C 1 (subA a' n 1 cap') (bs.length - (k + n)) (cap' - n) (bsV (bs.drop (k + n))) := by
      have := hrs.subB (k := n) (m := bs.length - k) hn1.2.1 (Nat.le_refl _)
      rwa [List.drop_drop, List.take_of_length_le (by rw [List.length_drop]; omega), show bs.length - k - n = bs.length - (k + n) by omega] at this
    refine xd (fun h2 => ?_) (fun h2 => ?_)
    · have ec : hChunk u xs = ⟨procS r1 u.st, r1, u.len + n⟩ := by
        unfold hChunk; rw [if_pos (by omega), hxl, hr1]
      have hrl : (u.st.l).length = 8 := rfl
      repeat (first | refine xst ?_ | refine xar ?_ | refine xop ?_ | refine xlen ?_ | refine xld rfl ?_ | refine xsto rfl ?_ | refine xno ?_ | refine xt ?_ | refine xf ?_)
      refine xdraw ?_
      refine xdop 0 ?_
      refine xdop 1 ?_
      refine xdop 2 ?_
      refine xdop 3 ?_
      refine xdld 4 rfl rfl ?_
      refine xdop 5 ?_
      refine xdop 6 ?_
      refine xdop 7 ?_
      refine xdld 8 rfl rfl ?_ (hv := HS.v_part (u := ⟨u.st, r1, u.len + n⟩) hr1l rfl rfl)
      refine xdact 9 ?_
      refine xcall (process_spec r1 hr1l u.st) ?_
      rintro v H ⟨rfl, rfl⟩
      refine G.app ?_
      refine xst ?_
      refine xdop 10 ?_
      refine xdop 11 ?_
      refine xdact 12 ?_
      refine xsto rfl ?_ (hm := HS.v_st ⟨u.st, r1, u.len + n⟩ (procS r1 u.st))
      refine xst ?_
      refine xdend ?_
      repeat (first | refine xst ?_ | refine xar ?_ | refine xop ?_ | refine xlen ?_ | refine xld rfl ?_ | refine xsto rfl ?_ | refine xno ?_ | refine xt ?_ | refine xf ?_)
      refine G.fin (⟨k + n, subA a' n 1 cap', cap' - n⟩ : WrSt) ⟨⟨by show k + n ≤ _; omega, hnext⟩, by show bs.length - (k + n) < bs.length - k; omega⟩ ⟨rfl, rfl, trivial⟩ ?_
      show Ent _ [pts q (hWrite h (bs.take (k + n))).v]
      rw [hstep, ec]
      exact ent_pick
    · have ec : hChunk u xs = ⟨u.st, r1, u.len + n⟩ := by
        unfold hChunk; rw [if_neg (by omega), hxl, hr1]
      repeat (first | refine xst ?_ | refine xar ?_ | refine xop ?_ | refine xlen ?_ | refine xld rfl ?_ | refine xsto rfl ?_ | refine xno ?_ | refine xt ?_ | refine xf ?_)
      refine G.fin (⟨k + n, subA a' n 1 cap', cap' - n⟩ : WrSt) ⟨⟨by show k + n ≤ _; omega, hnext⟩, by show bs.length - (k + n) < bs.length - k; omega⟩ ⟨rfl, rfl, trivial⟩ ?_
      show Ent _ [pts q (hWrite h (bs.take (k + n))).v]
      rw [hstep, ec]
      exact ent_pick
  · obtain rfl : k = bs.length := by omega
    repeat (first | refine xst ?_ | refine xar ?_ | refine xop ?_ | refine xlen ?_ | refine xld rfl ?_ | refine xsto rfl ?_ | refine xno ?_ | refine xt ?_ | refine xf ?_)
    refine xdonep [0] ?_
    rw [← hu, List.take_length]
    exact ⟨rfl, rfl⟩
end Go.Proofs.YtdalmiacjicgpaaGreatDoor

/- sha: the digest. -/
namespace Go.Proofs.YtdalmiacjicgpaaGreatDoor
open Go.W

def iniS : St := ⟨0x6a09e667, 0xbb67ae85, 0x3c6ef372, 0xa54ff53a, 0x510e527f, 0x9b05688c, 0x1f83d9ab, 0x5be0cd19⟩
def iniV : HProp := rdb 0 (wsV iniS.l)
def newH : HS := ⟨iniS, List.replicate 64 0, 0⟩
def wB (w : UInt32) (n : Nat) : UInt8 := UInt8.ofNat (w.toNat / 2 ^ n)
def outW (w : UInt32) : List UInt8 := [wB w 24, wB w 16, wB w 8, wB w 0]
def outS (l : List UInt32) : List UInt8 := l.flatMap outW
theorem outS_len (l : List UInt32) : (outS l).length = 4 * l.length := by
  induction l with
  | nil => rfl
  | cons w l ih => simp only [outS, List.flatMap_cons, List.length_append, List.length_cons] at *; rw [ih]; simp [outW]; omega
theorem outS_get {l : List UInt32} {i j : Nat} (hi : i < l.length) (hj : j < 4) : (bsV (outS l))[4 * i + j]? = some (bV ((outW l[i])[j]'(by simpa [outW] using hj))) := by
  have h1 : bsV (outS l) = l.flatMap (fun w => bsV (outW w)) := by
    unfold outS
    clear hi
    induction l with
    | nil => rfl
    | cons w l ih => rw [List.flatMap_cons, bsV_append, List.flatMap_cons, ih]
  rw [h1, Nat.mul_comm, flat_get (s := 4) (fun x => by simp [bsV, outW]) l i j hi hj, bsV_get (by simpa [outW] using hj)]
theorem wB_byte (w : UInt32) (n : Nat) (h : n ≤ 32) : IntKind.u8.wrap ((w.toNat : Int).fdiv (2 ^ (min n IntKind.u32.bits))) = ((wB w n).toNat : Int) := by
  rw [w_shr w n h, u8_wrap, wShr_toNat]; rfl
theorem wB_byte0 (w : UInt32) : IntKind.u8.wrap (w.toNat : Int) = ((wB w 0).toNat : Int) := by
  rw [u8_wrap]; simp [wB]

theorem newH_spec : Fun Tryz.prog 80 [] [iniV] [] fun v H => ∃ q, v = .pointer (some ⟨q, 0, none⟩) ∧ H = [pts q newH.v] := by
  refine xenter (p := pg) Tryz.call80 Tryz.func80 fun C => ?_
  haveI := RB.of C (b := 0) (l := wsV iniS.l) (by simp [iniV])
  repeat (first | refine xst ?_ | refine xar ?_ | refine xop ?_ | refine xlen ?_ | refine xld rfl ?_ | refine xsto rfl ?_ | refine xno ?_ | refine xt ?_ | refine xf ?_)
  refine xnew fun q => ?_
  repeat (first | refine xst ?_ | refine xar ?_ | refine xop ?_ | refine xlen ?_ | refine xld rfl ?_ | refine xsto rfl ?_ | refine xno ?_ | refine xt ?_ | refine xf ?_)
  refine xrep 0 newH.v rfl rfl ?_
  refine xretp [0] ?_
  exact ⟨q, rfl, rfl⟩

def hFin (h : HS) : List UInt8 :=
  let c1 := hWrite h [0x80]
  let c2 := hWrite c1 (List.replicate ((120 - c1.len % 64) % 64) 0)
  let c3 := hWrite c2 (putB (h.len * 8) 8).reverse
  outS c3.st.l
theorem zeros_bytes (n : Nat) : zeros n [.int .u8 0] = bsV (List.replicate n 0) := by
  simp [zeros, bsV, bV]
theorem tail_get (n i : Nat) (h : i < 8) : (bsV (putB n 8).reverse)[i]? = some (bV (UInt8.ofNat (n / 2 ^ (8 * (7 - i))))) := by
  rw [bsV_get (by simp [putB_length]; exact h)]
  congr 2
  rw [List.getElem_reverse, putB_get]
  simp [putB_length]

theorem hsum_spec (q : Nat) (h : HS) (hr : h.rest.length = 64) (hl : h.len ≤ 900000000) : Fun Tryz.prog 82 [.pointer (some ⟨q, 0, none⟩)] [kV, rdb q h.v] [] fun v H => v = .agg (bsV (hFin h)).toArray ∧ H = [] := by
  refine xenter (p := pg) Tryz.call82 Tryz.func82 fun C => ?_
  haveI := RB.of C (b := q) (l := h.v) (by simp)
  haveI : RP C kV := RP.of C (by simp)
  iterate 2 (first | refine xst ?_ | refine xar ?_ | refine xop ?_ | refine xlen ?_ | refine xld rfl ?_ | refine xsto rfl ?_ | refine xno ?_ | refine xt ?_ | refine xf ?_)
  refine xnew fun b2 => ?_
  refine xrep 0 (zeros 32 [.int .u8 0]) rfl rfl ?_
  iterate 5 (first | refine xst ?_ | refine xar ?_ | refine xop ?_ | refine xlen ?_ | refine xld rfl ?_ | refine xsto rfl ?_ | refine xno ?_ | refine xt ?_ | refine xf ?_)
  refine xld rfl ?_ (hv := partF_all rfl (by rw [HS.v_len hr]; rfl))
  refine xnew fun c => ?_
  have hone : ∀ v ∈ h.v, v.oneCell' = true := by
    intro v hv
    rcases List.mem_append.1 hv with hv | hv
    · exact wsV_one _ v hv
    · rcases List.mem_append.1 hv with hv | hv
      · exact bsV_one _ v hv
      · obtain rfl := List.mem_singleton.1 hv; rfl
  refine xsta (cs := h.v) rfl (HS.v_len hr) hone h.v (put_all (by rw [HS.v_len hr]; rfl)) (by rw [HS.v_len hr]; exact Nat.le_of_ble_eq_true rfl) ?_
  iterate 4 (first | refine xst ?_ | refine xar ?_ | refine xop ?_ | refine xlen ?_ | refine xld rfl ?_ | refine xsto rfl ?_ | refine xno ?_ | refine xt ?_ | refine xf ?_)
  refine xld rfl ?_ (hv := partF_one rfl (HS.v_at hr))
  repeat (refine xnot 18 ?_; first | refine xst ?_ | refine xar ?_ | refine xop ?_ | refine xlen ?_ | refine xld rfl ?_ | refine xsto rfl ?_ | refine xno ?_ | refine xt ?_ | refine xf ?_)
  have hcount : IntKind.u64.wrap (IntKind.u64.wrap (h.len : Int) * 8) = ((h.len * 8 : Nat) : Int) := by
    rw [u64_wrap (by omega), show ((h.len : Int) * 8) = ((h.len * 8 : Nat) : Int) by omega, u64_wrap (by omega)]
  refine xE 18 (.int .u64 ((h.len * 8 : Nat) : Int)) rfl (congrArg (Value.int .u64) hcount) ?_
  repeat (first | refine xst ?_ | refine xar ?_ | refine xop ?_ | refine xlen ?_ | refine xld rfl ?_ | refine xsto rfl ?_ | refine xno ?_ | refine xt ?_ | refine xf ?_)
  refine xbsl fun b3 => ?_
  refine xslc 0 1 1 (bsV [0x80]) rfl rfl rfl ?_
  refine xcall (write_spec c (some ⟨b3, 0, none⟩) 1 1 [0x80] h rfl hr (by simp; omega)) ?_
  rintro v H ⟨rfl, rfl⟩
  refine G.app ?_
  obtain ⟨c1, hc1⟩ : ∃ c1, hWrite h [0x80] = c1 := ⟨_, rfl⟩
  have hr1 : c1.rest.length = 64 := by rw [← hc1, hWrite_rest, hr]
  have hl1 : c1.len = h.len + 1 := by rw [← hc1, hWrite_len]; rfl
  refine xrep 0 c1.v rfl (by rw [hc1]) ?_
  iterate 4 (first | refine xst ?_ | refine xar ?_ | refine xop ?_ | refine xlen ?_ | refine xld rfl ?_ | refine xsto rfl ?_ | refine xno ?_ | refine xt ?_ | refine xf ?_)
  refine xld rfl ?_ (hv := partF_one rfl (HS.v_at hr1))
  repeat (refine xnot 23 ?_; first | refine xst ?_ | refine xar ?_ | refine xop ?_ | refine xlen ?_ | refine xld rfl ?_ | refine xsto rfl ?_ | refine xno ?_ | refine xt ?_ | refine xf ?_)
  refine xE 23 (.int .i64 ((c1.len % 64 : Nat) : Int)) rfl rfl ?_
  have hu : c1.len % 64 < 64 := Nat.mod_lt _ (by omega)
  obtain ⟨z, hz⟩ : ∃ z, (120 - c1.len % 64) % 64 = z := ⟨_, rfl⟩
  have hz64 : z < 64 := by rw [← hz]; exact Nat.mod_lt _ (by omega)
  repeat (refine xnot 25 ?_; first | refine xst ?_ | refine xar ?_ | refine xop ?_ | refine xlen ?_ | refine xld rfl ?_ | refine xsto rfl ?_ | refine xno ?_ | refine xt ?_ | refine xf ?_)
  refine xE 25 (.int .i64 ((120 - c1.len % 64 : Nat) : Int)) rfl (congrArg (Value.int .i64) (by omega)) ?_
  repeat (refine xnot 26 ?_; first | refine xst ?_ | refine xar ?_ | refine xop ?_ | refine xlen ?_ | refine xld rfl ?_ | refine xsto rfl ?_ | refine xno ?_ | refine xt ?_ | refine xf ?_)
  refine xE 26 (.int .i64 (z : Int)) rfl (congrArg (Value.int .i64) (by rw [← hz]; rfl)) ?_
  repeat (first | refine xst ?_ | refine xar ?_ | refine xop ?_ | refine xlen ?_ | refine xld rfl ?_ | refine xsto rfl ?_ | refine xno ?_ | refine xt ?_ | refine xf ?_)
  refine xmake z z rfl rfl rfl (Nat.le_refl _) (by omega) (by omega) fun b4 => ?_
  refine xreH 0 (sl 1 (some ⟨b4, 0, none⟩) z z (bsV (List.replicate z 0))) rfl (by rw [zeros_bytes]) ?_
  refine xcall (write_spec c (some ⟨b4, 0, none⟩) z z (List.replicate z 0) c1 (by simp) hr1 (by simp; omega)) ?_
  rintro v H ⟨rfl, rfl⟩
  refine G.app ?_
  obtain ⟨c2, hc2⟩ : ∃ c2, hWrite c1 (List.replicate z 0) = c2 := ⟨_, rfl⟩
  have hr2 : c2.rest.length = 64 := by rw [← hc2, hWrite_rest, hr1]
  have hl2 : c2.len = h.len + 1 + z := by rw [← hc2, hWrite_len, hl1]; simp
  refine xrep 0 c2.v rfl (by rw [hc2]) ?_
  repeat (first | refine xst ?_ | refine xar ?_ | refine xop ?_ | refine xlen ?_ | refine xld rfl ?_ | refine xsto rfl ?_ | refine xno ?_ | refine xt ?_ | refine xf ?_)
  refine xnew fun b5 => ?_
  refine xrep 0 (bsV ((putB (h.len * 8) 8).reverse.take 0) ++ zeros (8 - 0) [.int .u8 0]) rfl rfl ?_
  repeat (first | refine xst ?_ | refine xar ?_ | refine xop ?_ | refine xlen ?_ | refine xld rfl ?_ | refine xsto rfl ?_ | refine xno ?_ | refine xt ?_ | refine xf ?_)
  have htl : (putB (h.len * 8) 8).reverse.length = 8 := by simp [putB_length]
  refine G.loop (σ := Nat) (fun i => [(2, .pointer (some ⟨b2, 0, none⟩)), (3, .pointer (some ⟨c, 0, none⟩)), (4, .int .u64 ((h.len * 8 : Nat) : Int)), (7, .pointer (some ⟨b5, 0, none⟩)), (30, .int .i64 (i : Int))])
    (fun i => [pts b5 (bsV ((putB (h.len * 8) 8).reverse.take i) ++ zeros (8 - i) [.int .u8 0]), pts c c2.v, pts b2 (zeros 32 [.int .u8 0])]) (fun i => i ≤ 8) (fun i => 8 - i) 0 (Nat.zero_le _) ⟨rfl, rfl, rfl, rfl, rfl, trivial⟩ ent_pick ?_
  intro i hi
  repeat (first | refine xst ?_ | refine xar ?_ | refine xop ?_ | refine xlen ?_ | refine xld rfl ?_ | refine xsto rfl ?_ | refine xno ?_ | refine xt ?_ | refine xf ?_)
  refine xd (fun h3 => ?_) (fun h3 => ?_)
  · have hi' : i < 8 := by omega
    repeat (refine xnot 37 ?_; first | refine xst ?_ | refine xar ?_ | refine xop ?_ | refine xlen ?_ | refine xld rfl ?_ | refine xsto rfl ?_ | refine xno ?_ | refine xt ?_ | refine xf ?_)
    refine xE 37 (.int .i64 ((8 * (7 - i) : Nat) : Int)) rfl (congrArg (Value.int .i64) (by omega)) ?_
    repeat (refine xnot 39 ?_; first | refine xst ?_ | refine xar ?_ | refine xop ?_ | refine xlen ?_ | refine xld rfl ?_ | refine xsto rfl ?_ | refine xno ?_ | refine xt ?_ | refine xf ?_)
    refine xE 39 (bV (UInt8.ofNat (h.len * 8 / 2 ^ (8 * (7 - i))))) rfl (congrArg (Value.int .u8) (putB_byte (h.len * 8) (7 - i) (by omega))) ?_
    refine xix ?_
    refine xEp 40 i rfl (Nat.zero_add _) ?_
    refine xsto rfl ?_ (hm := (putF_one (by rw [List.length_append, bsV_length, List.length_take, htl, zeros_length]; simp; omega)).trans (congrArg some (show _ = bsV ((putB (h.len * 8) 8).reverse.take (i + 1)) ++ zeros (8 - (i + 1)) [.int .u8 0] by
      rw [fill_set (by rw [bsV_length, List.length_take, htl]; omega) hi', List.take_succ_eq_append_getElem (by rw [htl]; omega), bsV_append]
      congr 2
      have := tail_get (h.len * 8) i hi'
      rw [bsV_get (by rw [htl]; omega)] at this
      exact congrArg (fun v => [v]) (Option.some.inj this).symm)))
    repeat (first | refine xst ?_ | refine xar ?_ | refine xop ?_ | refine xlen ?_ | refine xld rfl ?_ | refine xsto rfl ?_ | refine xno ?_ | refine xt ?_ | refine xf ?_)
    exact G.fin (i + 1) ⟨by omega, by omega⟩ ⟨rfl, rfl, rfl, rfl, rfl, trivial⟩ ent_pick
  · obtain rfl : i = 8 := by omega
    refine xslc 0 1 8 (bsV (putB (h.len * 8) 8).reverse) rfl (by rw [List.take_of_length_le (by rw [htl]; omega)]; simp [zeros]) (by rw [bsV_length, htl]) ?_
    repeat (first | refine xst ?_ | refine xar ?_ | refine xop ?_ | refine xlen ?_ | refine xld rfl ?_ | refine xsto rfl ?_ | refine xno ?_ | refine xt ?_ | refine xf ?_)
    refine xslice 0 8 rfl rfl rfl (by omega) (by omega) ?_
    refine xE 42 (.slice (some ⟨b5, 0, none⟩) 8 8) rfl (congrArg (fun z => Value.slice z 8 8) (subA_lt (by omega))) ?_
    refine xcall (write_spec c (some ⟨b5, 0, none⟩) 8 8 (putB (h.len * 8) 8).reverse c2 htl.symm hr2 (by rw [htl]; omega)) ?_
    rintro v H ⟨rfl, rfl⟩
    refine G.app ?_
    obtain ⟨c3, hc3⟩ : ∃ c3, hWrite c2 (putB (h.len * 8) 8).reverse = c3 := ⟨_, rfl⟩
    refine xrep 0 c3.v rfl (by rw [hc3]) ?_
    have hfin : hFin h = outS c3.st.l := by
      unfold hFin; simp only [hc1, hz, hc2, hc3]
    repeat (first | refine xst ?_ | refine xar ?_ | refine xop ?_ | refine xlen ?_ | refine xld rfl ?_ | refine xsto rfl ?_ | refine xno ?_ | refine xt ?_ | refine xf ?_)
    refine xnew fun b6 => ?_
    obtain ⟨ys, hys⟩ : ∃ ys, outS c3.st.l = ys := ⟨_, rfl⟩
    have hyl : ys.length = 32 := by rw [← hys, outS_len]; rfl
    have hst : ∀ m v, m < 32 → (bsV ys)[m]? = some v → (bsV (ys.take m) ++ zeros (32 - m) [.int .u8 0]).set m v = bsV (ys.take (m + 1)) ++ zeros (32 - (m + 1)) [.int .u8 0] := by
      intro m v hm hv
      rw [fill_set (by rw [bsV_length, List.length_take, hyl]; omega) hm, List.take_succ_eq_append_getElem (by omega), bsV_append]
      rw [bsV_get (by omega)] at hv
      congr 2
      exact congrArg (fun v => [v]) (Option.some.inj hv).symm
    have hrow : ∀ m, m ≤ 32 → (bsV (ys.take m) ++ zeros (32 - m) [.int .u8 0]).length = 32 := by
      intro m hm
      rw [List.length_append, bsV_length, List.length_take, hyl, zeros_length]; simp; omega
    refine xrep 0 (bsV (ys.take (4 * 0)) ++ zeros (32 - 4 * 0) [.int .u8 0]) rfl rfl ?_
    repeat (first | refine xst ?_ | refine xar ?_ | refine xop ?_ | refine xlen ?_ | refine xld rfl ?_ | refine xsto rfl ?_ | refine xno ?_ | refine xt ?_ | refine xf ?_)
    refine G.loop (σ := Nat) (fun i => [(2, .pointer (some ⟨b2, 0, none⟩)), (9, .pointer (some ⟨b6, 0, none⟩)), (45, .agg (wsV c3.st.l).toArray), (46, .int .i64 (i : Int))])
      (fun i => [pts b6 (bsV (ys.take (4 * i)) ++ zeros (32 - 4 * i) [.int .u8 0]), pts b2 (zeros 32 [.int .u8 0])]) (fun i => i ≤ 8) (fun i => 8 - i) 0 (Nat.zero_le _) ⟨rfl, rfl, rfl, rfl, trivial⟩ ent_pick ?_
    intro i hi
    repeat (first | refine xst ?_ | refine xar ?_ | refine xop ?_ | refine xlen ?_ | refine xld rfl ?_ | refine xsto rfl ?_ | refine xno ?_ | refine xt ?_ | refine xf ?_)
    refine xd (fun h5 => ?_) (fun h5 => ?_)
    · have hi' : i < 8 := by omega
      have hi8 : i < c3.st.l.length := hi'
      have hg : ∀ j (hj : j < 4), (bsV ys)[4 * i + j]? = some (bV ((outW c3.st.l[i])[j]'(by simpa [outW] using hj))) := fun j hj => by rw [← hys]; exact outS_get hi8 hj
      repeat (first | refine xst ?_ | refine xar ?_ | refine xop ?_ | refine xlen ?_ | refine xld rfl ?_ | refine xsto rfl ?_ | refine xno ?_ | refine xt ?_ | refine xf ?_)
      refine xpart rfl i rfl hi' (partF_one rfl ((congrArg ((wsV c3.st.l)[·]?) (Nat.mul_one i)).trans (wsV_get hi8))) ?_
      repeat (refine xnot 54 ?_; first | refine xst ?_ | refine xar ?_ | refine xop ?_ | refine xlen ?_ | refine xld rfl ?_ | refine xsto rfl ?_ | refine xno ?_ | refine xt ?_ | refine xf ?_)
      refine xE 51 (.int .i64 ((4 * i : Nat) : Int)) rfl (congrArg (Value.int .i64) (by omega)) ?_
      refine xE 54 (bV (wB c3.st.l[i] 24)) rfl (congrArg (Value.int .u8) (wB_byte _ 24 (by omega))) ?_
      refine xix ?_
      refine xEp 55 (4 * i) rfl (Nat.zero_add _) ?_
      refine xsto rfl ?_ (hm := (putF_one (by rw [hrow _ (by omega)]; omega)).trans (congrArg some (hst (4 * i) _ (by omega) (hg 0 (by omega)))))
      repeat (refine xnot 61 ?_; first | refine xst ?_ | refine xar ?_ | refine xop ?_ | refine xlen ?_ | refine xld rfl ?_ | refine xsto rfl ?_ | refine xno ?_ | refine xt ?_ | refine xf ?_)
      refine xE 58 (.int .i64 ((4 * i + 1 : Nat) : Int)) rfl (congrArg (Value.int .i64) (by omega)) ?_
      refine xE 61 (bV (wB c3.st.l[i] 16)) rfl (congrArg (Value.int .u8) (wB_byte _ 16 (by omega))) ?_
      refine xix ?_
      refine xEp 62 (4 * i + 1) rfl (Nat.zero_add _) ?_
      refine xsto rfl ?_ (hm := (putF_one (by rw [hrow _ (by omega)]; omega)).trans (congrArg some (hst (4 * i + 1) _ (by omega) (hg 1 (by omega)))))
      repeat (refine xnot 68 ?_; first | refine xst ?_ | refine xar ?_ | refine xop ?_ | refine xlen ?_ | refine xld rfl ?_ | refine xsto rfl ?_ | refine xno ?_ | refine xt ?_ | refine xf ?_)
      refine xE 65 (.int .i64 ((4 * i + 2 : Nat) : Int)) rfl (congrArg (Value.int .i64) (by omega)) ?_
      refine xE 68 (bV (wB c3.st.l[i] 8)) rfl (congrArg (Value.int .u8) (wB_byte _ 8 (by omega))) ?_
      refine xix ?_
      refine xEp 69 (4 * i + 2) rfl (Nat.zero_add _) ?_
      refine xsto rfl ?_ (hm := (putF_one (by rw [hrow _ (by omega)]; omega)).trans (congrArg some (hst (4 * i + 2) _ (by omega) (hg 2 (by omega)))))
      repeat (refine xnot 74 ?_; first | refine xst ?_ | refine xar ?_ | refine xop ?_ | refine xlen ?_ | refine xld rfl ?_ | refine xsto rfl ?_ | refine xno ?_ | refine xt ?_ | refine xf ?_)
      refine xE 72 (.int .i64 ((4 * i + 3 : Nat) : Int)) rfl (congrArg (Value.int .i64) (by omega)) ?_
      refine xE 74 (bV (wB c3.st.l[i] 0)) rfl (congrArg (Value.int .u8) (wB_byte0 _)) ?_
      refine xix ?_
      refine xEp 75 (4 * i + 3) rfl (Nat.zero_add _) ?_
      refine xsto rfl ?_ (hm := (putF_one (by rw [hrow _ (by omega)]; omega)).trans (congrArg some (hst (4 * i + 3) _ (by omega) (hg 3 (by omega)))))
      repeat (first | refine xst ?_ | refine xar ?_ | refine xop ?_ | refine xlen ?_ | refine xld rfl ?_ | refine xsto rfl ?_ | refine xno ?_ | refine xt ?_ | refine xf ?_)
      exact G.fin (i + 1) ⟨by omega, by omega⟩ ⟨rfl, rfl, rfl, rfl, trivial⟩ ent_pick
    · obtain rfl : i = 8 := by omega
      refine xrep 0 (bsV ys) rfl (by rw [List.take_of_length_le (by omega)]; simp [zeros]) ?_
      have hbl : (bsV ys).length = 32 := by rw [bsV_length, hyl]
      repeat (first | refine xst ?_ | refine xar ?_ | refine xop ?_ | refine xlen ?_ | refine xld rfl ?_ | refine xsto rfl ?_ | refine xno ?_ | refine xt ?_ | refine xf ?_)
      refine xld rfl ?_ (hv := partF_all rfl hbl)
      refine xsta (cs := bsV ys) rfl hbl (bsV_one ys) (bsV ys) (put_all (by rw [zeros_length, hbl]; rfl)) (by rw [zeros_length, hbl]; exact Nat.le_of_ble_eq_true rfl) ?_
      refine xst ?_
      refine xretm [] rfl (.c .nil rfl rfl (partF_all rfl hbl)) ?_
      rw [hfin, hys]
      exact ⟨rfl, rfl⟩

def shaF (bs : List UInt8) : List UInt8 := hFin (hWrite newH bs)
theorem sum_spec (a : Option Addr) (n cap : Nat) (bs : List UInt8) (hn : n = bs.length) (hl : n ≤ 900000000) : Fun Tryz.prog 39 [.slice a n cap] [kV, iniV, slR 1 a n cap (bsV bs)] [] fun v H => v = .agg (bsV (shaF bs)).toArray ∧ H = [] := by
  subst hn
  refine xenter (p := pg) Tryz.call39 Tryz.func39 fun C => ?_
  haveI : RP C kV := RP.of C (by simp)
  haveI : RP C iniV := RP.of C (by simp)
  haveI := RP.slR (RP.of C (X := slR 1 a bs.length cap (bsV bs)) (by simp))
  iterate 2 (first | refine xst ?_ | refine xar ?_ | refine xop ?_ | refine xlen ?_ | refine xld rfl ?_ | refine xsto rfl ?_ | refine xno ?_ | refine xt ?_ | refine xf ?_)
  refine xnew fun b2 => ?_
  refine xrep 0 (zeros 32 [.int .u8 0]) rfl rfl ?_
  repeat (first | refine xst ?_ | refine xar ?_ | refine xop ?_ | refine xlen ?_ | refine xld rfl ?_ | refine xsto rfl ?_ | refine xno ?_ | refine xt ?_ | refine xf ?_)
  refine xcall newH_spec ?_
  rintro v H ⟨q, rfl, rfl⟩
  refine G.app ?_
  repeat (first | refine xst ?_ | refine xar ?_ | refine xop ?_ | refine xlen ?_ | refine xld rfl ?_ | refine xsto rfl ?_ | refine xno ?_ | refine xt ?_ | refine xf ?_)
  refine xcall (write_spec q a bs.length cap bs newH rfl rfl (by show 0 + _ ≤ _; omega)) ?_
  rintro v H ⟨rfl, rfl⟩
  refine G.app ?_
  obtain ⟨u, hu⟩ : ∃ u, hWrite newH bs = u := ⟨_, rfl⟩
  have hur : u.rest.length = 64 := by rw [← hu, hWrite_rest]; rfl
  have hul : u.len = bs.length := by rw [← hu, hWrite_len]; show 0 + _ = _; omega
  refine xrep 0 u.v rfl (by rw [hu]) ?_
  repeat (first | refine xst ?_ | refine xar ?_ | refine xop ?_ | refine xlen ?_ | refine xld rfl ?_ | refine xsto rfl ?_ | refine xno ?_ | refine xt ?_ | refine xf ?_)
  refine xcall (hsum_spec q u hur (by omega)) ?_
  rintro v H ⟨rfl, rfl⟩
  refine G.app ?_
  have hbl : (bsV (hFin u)).length = 32 := by rw [bsV_length]; unfold hFin; rw [outS_len]; rfl
  refine xsta (cs := bsV (hFin u)) rfl hbl (bsV_one _) (bsV (hFin u)) (put_all (by rw [zeros_length, hbl]; rfl)) (by rw [zeros_length, hbl]; exact Nat.le_of_ble_eq_true rfl) ?_
  refine xst ?_
  refine xretm [] rfl (.c .nil rfl rfl (partF_all rfl hbl)) ?_
  unfold shaF
  rw [hu]
  exact ⟨rfl, rfl⟩
theorem shaF_len (bs : List UInt8) : (shaF bs).length = 32 := by unfold shaF hFin; rw [outS_len]; rfl
end Go.Proofs.YtdalmiacjicgpaaGreatDoor

/- image: manifests. -/
namespace Go.Proofs.YtdalmiacjicgpaaGreatDoor
open Go.W

structure Man where
  part : Int
  ver : UInt32
  size : Int
  sum : List UInt8
def Man.v (m : Man) : List Value := .int .i64 m.part :: wV m.ver :: .int .i64 m.size :: bsV m.sum
def Man.ok (m : Man) : Bool := decide (0 ≤ m.part ∧ m.part < 8 ∧ 4 ≤ m.size ∧ m.size ≤ 512 ∧ m.size.tmod 4 = 0)
theorem Man.v_len {m : Man} (h : m.sum.length = 32) : m.v.length = 35 := by unfold Man.v; simp [bsV, h]
theorem Man.v_one (m : Man) : ∀ v ∈ m.v, v.oneCell' = true := by
  intro v hv
  unfold Man.v at hv
  simp only [List.mem_cons] at hv
  rcases hv with rfl | rfl | rfl | hv
  · rfl
  · rfl
  · rfl
  · exact bsV_one _ v hv

theorem valid_spec (m : Man) (_hs : m.sum.length = 32) : Fun Tryz.prog 79 [.agg m.v.toArray] [] [] fun v H => v = .bool m.ok ∧ H = [] := by
  refine xenter (p := pg) Tryz.call79 Tryz.func79 fun C => ?_
  repeat (first | refine xst ?_ | refine xar ?_ | refine xop ?_ | refine xlen ?_ | refine xld rfl ?_ | refine xsto rfl ?_ | refine xno ?_ | refine xt ?_ | refine xf ?_)
  refine xnew fun b => ?_
  refine xrep 0 m.v rfl rfl ?_
  repeat (first | refine xst ?_ | refine xar ?_ | refine xop ?_ | refine xlen ?_ | refine xld rfl ?_ | refine xsto rfl ?_ | refine xno ?_ | refine xt ?_ | refine xf ?_)
  refine xbc 6 (fun h1 => ?_) (fun h1 => ?_)
  · repeat (first | refine xst ?_ | refine xar ?_ | refine xop ?_ | refine xlen ?_ | refine xld rfl ?_ | refine xsto rfl ?_ | refine xno ?_ | refine xt ?_ | refine xf ?_)
    refine xbc 11 (fun h2 => ?_) (fun h2 => ?_)
    · repeat (first | refine xst ?_ | refine xar ?_ | refine xop ?_ | refine xlen ?_ | refine xld rfl ?_ | refine xsto rfl ?_ | refine xno ?_ | refine xt ?_ | refine xf ?_)
      refine xbc 16 (fun h3 => ?_) (fun h3 => ?_)
      · repeat (first | refine xst ?_ | refine xar ?_ | refine xop ?_ | refine xlen ?_ | refine xld rfl ?_ | refine xsto rfl ?_ | refine xno ?_ | refine xt ?_ | refine xf ?_)
        refine xbc 21 (fun h4 => ?_) (fun h4 => ?_)
        · repeat (first | refine xst ?_ | refine xar ?_ | refine xop ?_ | refine xlen ?_ | refine xld rfl ?_ | refine xsto rfl ?_ | refine xno ?_ | refine xt ?_ | refine xf ?_)
          refine xret [] ⟨?_, rfl⟩
          simp only [resV]; congr 1; unfold Man.ok; rw [Bool.eq_iff_iff]; simp only [decide_eq_true_eq]
          exact ⟨fun h => ⟨h1, h2, h3, h4, h⟩, fun h => h.2.2.2.2⟩
        · repeat (first | refine xst ?_ | refine xar ?_ | refine xop ?_ | refine xlen ?_ | refine xld rfl ?_ | refine xsto rfl ?_ | refine xno ?_ | refine xt ?_ | refine xf ?_)
          refine xret [] ⟨?_, rfl⟩
          simp only [resV]; congr 1; unfold Man.ok; rw [decide_eq_false (by omega)]
      · repeat (first | refine xst ?_ | refine xar ?_ | refine xop ?_ | refine xlen ?_ | refine xld rfl ?_ | refine xsto rfl ?_ | refine xno ?_ | refine xt ?_ | refine xf ?_)
        refine xret [] ⟨?_, rfl⟩
        simp only [resV]; congr 1; unfold Man.ok; rw [decide_eq_false (by omega)]
    · repeat (first | refine xst ?_ | refine xar ?_ | refine xop ?_ | refine xlen ?_ | refine xld rfl ?_ | refine xsto rfl ?_ | refine xno ?_ | refine xt ?_ | refine xf ?_)
      refine xret [] ⟨?_, rfl⟩
      simp only [resV]; congr 1; unfold Man.ok; rw [decide_eq_false (by omega)]
  · repeat (first | refine xst ?_ | refine xar ?_ | refine xop ?_ | refine xlen ?_ | refine xld rfl ?_ | refine xsto rfl ?_ | refine xno ?_ | refine xt ?_ | refine xf ?_)
    refine xret [] ⟨?_, rfl⟩
    simp only [resV]; congr 1; unfold Man.ok; rw [decide_eq_false (by omega)]

theorem of_spec (part : Int) (ver : UInt32) (a : Option Addr) (n cap : Nat) (bs : List UInt8) (hn : n = bs.length) (hl : n ≤ 900000000) : Fun Tryz.prog 12 [.int .i64 part, wV ver, .slice a n cap] [kV, iniV, slR 1 a n cap (bsV bs)] []
    fun v H => v = .agg (Man.v ⟨part, ver, bs.length, shaF bs⟩).toArray ∧ H = [] := by
  subst hn
  refine xenter (p := pg) Tryz.call12 Tryz.func12 fun C => ?_
  haveI : RP C kV := RP.of C (by simp)
  haveI : RP C iniV := RP.of C (by simp)
  haveI := RP.slR (RP.of C (X := slR 1 a bs.length cap (bsV bs)) (by simp))
  iterate 2 (first | refine xst ?_ | refine xar ?_ | refine xop ?_ | refine xlen ?_ | refine xld rfl ?_ | refine xsto rfl ?_ | refine xno ?_ | refine xt ?_ | refine xf ?_)
  refine xnew fun b2 => ?_
  refine xrep 0 ([.int .i64 0, .int .u32 0, .int .i64 0] ++ zeros 32 [.int .u8 0]) rfl rfl ?_
  repeat (first | refine xst ?_ | refine xar ?_ | refine xop ?_ | refine xlen ?_ | refine xld rfl ?_ | refine xsto rfl ?_ | refine xno ?_ | refine xt ?_ | refine xf ?_)
  refine xcall (sum_spec a bs.length cap bs rfl hl) ?_
  rintro v H ⟨rfl, rfl⟩
  refine G.app ?_
  obtain ⟨s, hs⟩ : ∃ s, shaF bs = s := ⟨_, rfl⟩
  have hsl : s.length = 32 := by rw [← hs, shaF_len]
  refine xE 12 (.agg (bsV s).toArray) rfl (by rw [hs]) ?_
  refine xbuild (Man.v ⟨part, ver, bs.length, s⟩) rfl (fillF_cons rfl rfl (by exact Nat.le_of_ble_eq_true rfl) (fillF_cons rfl rfl (by exact Nat.le_of_ble_eq_true rfl) (fillF_cons rfl rfl (by exact Nat.le_of_ble_eq_true rfl) (fillF_cons rfl (by show (bsV s).length = 32; rw [bsV_length, hsl]) (by exact Nat.le_of_ble_eq_true rfl)
    (congrArg some (List.append_nil _)))))) ?_
  have hml := Man.v_len (m := ⟨part, ver, bs.length, s⟩) hsl
  refine xsta (cs := Man.v ⟨part, ver, bs.length, s⟩) rfl hml (Man.v_one _) (Man.v ⟨part, ver, bs.length, s⟩) (put_all (by rw [hml]; rfl)) (by rw [hml]; exact Nat.le_of_ble_eq_true rfl) ?_
  refine xst ?_
  refine xretm [] rfl (.c .nil rfl rfl (partF_all rfl hml)) ?_
  rw [hs]
  exact ⟨rfl, rfl⟩
end Go.Proofs.YtdalmiacjicgpaaGreatDoor

/- image: programs. -/
namespace Go.Proofs.YtdalmiacjicgpaaGreatDoor
open Go.W

theorem eq_sum : EqK pg 33 ty33 :=
  ⟨EqT.arr (j := ty5) ok33 rfl ok5 rfl (.inr rfl) (EqT.int ok5 rfl rfl 9998), rfl, by kernel_rfl⟩

/-- What is wrong with an image: the fault. -/
def progF (m : Man) (bs : List UInt8) : List (Int × Int) :=
  if m.ok = false then [(1, 0)]
  else if (bs.length : Int) < m.size then [(2, bs.length)]
  else if (bs.length : Int) > m.size then [(7, m.size)]
  else if shaF bs ≠ m.sum then [(8, 0)]
  else inF (decF bs) m.ver.toNat
def progL (m : Man) (bs : List UInt8) : List Ins := if progF m bs = [] then listI bs else []

theorem program_spec (m : Man) (hs : m.sum.length = 32) (a : Option Addr) (n cap : Nat) (bs : List UInt8) (hn : n = bs.length) (hl : n ≤ 1000000) : Fun Tryz.prog 85 [.agg m.v.toArray, .slice a n cap] [gErr, kV, iniV, slR 1 a n cap (bsV bs)] []
    fun v H => ∃ a' cap' e, v = .tuple #[.slice a' (progL m bs).length cap', e] ∧ oneC e = true ∧ H = [sl 4 a' (progL m bs).length cap' (inssV (progL m bs)), chain (progF m bs) e] := by
  subst hn
  refine xenter (p := pg) Tryz.call85 Tryz.func85 fun C => ?_
  haveI : RP C gErr := RP.of C (by simp)
  haveI : RP C kV := RP.of C (by simp)
  haveI : RP C iniV := RP.of C (by simp)
  haveI hr := RP.slR (RP.of C (X := slR 1 a bs.length cap (bsV bs)) (by simp))
  have hml := Man.v_len hs
  repeat (first | refine xst ?_ | refine xar ?_ | refine xop ?_ | refine xlen ?_ | refine xld rfl ?_ | refine xsto rfl ?_ | refine xno ?_ | refine xt ?_ | refine xf ?_)
  refine xnew fun b => ?_
  refine xrep 0 m.v rfl rfl ?_
  repeat (first | refine xst ?_ | refine xar ?_ | refine xop ?_ | refine xlen ?_ | refine xld rfl ?_ | refine xsto rfl ?_ | refine xno ?_ | refine xt ?_ | refine xf ?_)
  refine xld rfl ?_ (hv := partF_all rfl hml)
  refine xcall (valid_spec m hs) ?_
  rintro v H ⟨rfl, rfl⟩
  refine G.app ?_
  repeat (first | refine xst ?_ | refine xar ?_ | refine xop ?_ | refine xlen ?_ | refine xld rfl ?_ | refine xsto rfl ?_ | refine xno ?_ | refine xt ?_ | refine xf ?_)
  refine xbb 8 (fun h1 => ?_) (fun h1 => ?_)
  · have h1 : m.ok = false := by simpa using h1
    have e1 : progF m bs = newF 1 0 := by unfold progF; rw [if_pos h1]; rfl
    have e2 : progL m bs = [] := by unfold progL; rw [e1]; rfl
    repeat (first | refine xst ?_ | refine xar ?_ | refine xop ?_ | refine xlen ?_ | refine xld rfl ?_ | refine xsto rfl ?_ | refine xno ?_ | refine xt ?_ | refine xf ?_)
    refine xcall (new_spec 1 0) ?_
    rintro v H rfl
    refine G.app ?_
    refine G.fact (chain (newF 1 0) v) (P := oneC v = true) (fun w F h => chain_one h) fun ho => ?_
    repeat (first | refine xst ?_ | refine xar ?_ | refine xop ?_ | refine xlen ?_ | refine xld rfl ?_ | refine xsto rfl ?_ | refine xno ?_ | refine xt ?_ | refine xf ?_)
    refine G.sln 4 ?_
    refine xretp [0, 0] ?_
    rw [e1, e2]
    exact ⟨none, 0, v, rfl, ho, rfl⟩
  · have h1 : m.ok = true := by simpa using h1
    have hsz : 4 ≤ m.size ∧ m.size ≤ 512 := by
      unfold Man.ok at h1; rw [decide_eq_true_eq] at h1; omega
    repeat (first | refine xst ?_ | refine xar ?_ | refine xop ?_ | refine xlen ?_ | refine xld rfl ?_ | refine xsto rfl ?_ | refine xno ?_ | refine xt ?_ | refine xf ?_)
    refine xd (fun h2 => ?_) (fun h2 => ?_)
    · have e1 : progF m bs = newF 2 bs.length := by unfold progF; rw [if_neg (by rw [h1]; simp), if_pos h2]; rfl
      have e2 : progL m bs = [] := by unfold progL; rw [e1]; rfl
      repeat (first | refine xst ?_ | refine xar ?_ | refine xop ?_ | refine xlen ?_ | refine xld rfl ?_ | refine xsto rfl ?_ | refine xno ?_ | refine xt ?_ | refine xf ?_)
      refine xcall (new_spec 2 bs.length) ?_
      rintro v H rfl
      refine G.app ?_
      refine G.fact (chain (newF 2 bs.length) v) (P := oneC v = true) (fun w F h => chain_one h) fun ho => ?_
      repeat (first | refine xst ?_ | refine xar ?_ | refine xop ?_ | refine xlen ?_ | refine xld rfl ?_ | refine xsto rfl ?_ | refine xno ?_ | refine xt ?_ | refine xf ?_)
      refine G.sln 4 ?_
      refine xretp [0, 0] ?_
      rw [e1, e2]
      exact ⟨none, 0, v, rfl, ho, rfl⟩
    · repeat (first | refine xst ?_ | refine xar ?_ | refine xop ?_ | refine xlen ?_ | refine xld rfl ?_ | refine xsto rfl ?_ | refine xno ?_ | refine xt ?_ | refine xf ?_)
      refine xd (fun h3 => ?_) (fun h3 => ?_)
      · have e1 : progF m bs = newF 7 m.size := by unfold progF; rw [if_neg (by rw [h1]; simp), if_neg h2, if_pos h3]; rfl
        have e2 : progL m bs = [] := by unfold progL; rw [e1]; rfl
        repeat (first | refine xst ?_ | refine xar ?_ | refine xop ?_ | refine xlen ?_ | refine xld rfl ?_ | refine xsto rfl ?_ | refine xno ?_ | refine xt ?_ | refine xf ?_)
        refine xcall (new_spec 7 m.size) ?_
        rintro v H rfl
        refine G.app ?_
        refine G.fact (chain (newF 7 m.size) v) (P := oneC v = true) (fun w F h => chain_one h) fun ho => ?_
        repeat (first | refine xst ?_ | refine xar ?_ | refine xop ?_ | refine xlen ?_ | refine xld rfl ?_ | refine xsto rfl ?_ | refine xno ?_ | refine xt ?_ | refine xf ?_)
        refine G.sln 4 ?_
        refine xretp [0, 0] ?_
        rw [e1, e2]
        exact ⟨none, 0, v, rfl, ho, rfl⟩
      · repeat (first | refine xst ?_ | refine xar ?_ | refine xop ?_ | refine xlen ?_ | refine xld rfl ?_ | refine xsto rfl ?_ | refine xno ?_ | refine xt ?_ | refine xf ?_)
        have hp3 : (i : TI) → i.agg = true → i.size = 32 → partF i m.v (0 + 3) = some (.agg (bsV m.sum).toArray) := by
          intro i ha hs'
          rw [partF_agg ha (by rw [hml, hs']; exact Nat.le_of_ble_eq_true rfl), hs']
          show some (Value.agg ((bsV m.sum).take 32).toArray) = _
          rw [List.take_of_length_le (by rw [bsV_length, hs]; exact Nat.le_refl _)]
        refine xdraw ?_
        refine xdop 0 ?_
        refine xdop 2 ?_
        refine xdld 3 rfl rfl ?_ (hv := hp3 _ rfl rfl)
        refine xdact 1 ?_
        refine xcall (sum_spec a bs.length cap bs rfl (by omega)) ?_
        rintro v H ⟨rfl, rfl⟩
        refine G.app ?_
        have hsl := shaF_len bs
        refine xst ?_
        refine xdeq 4 rfl rfl eq_sum (by rw [bsV_length, hsl]; rfl) (by rw [bsV_length, hs]; rfl) (SameK.bsV (by rw [hsl, hs])) ?_
        refine xdop 5 ?_
        refine xdend ?_
        have hne : (true ^^ eqIV (bsV (shaF bs)) (bsV m.sum)) = decide (shaF bs ≠ m.sum) := by
          rw [eqIV_bsV (by rw [hsl, hs])]; simp
        refine xE 31 (.bool (decide (shaF bs ≠ m.sum))) rfl (congrArg Value.bool hne) ?_
        refine xd (fun h4 => ?_) (fun h4 => ?_)
        · have e1 : progF m bs = newF 8 0 := by unfold progF; rw [if_neg (by rw [h1]; simp), if_neg h2, if_neg h3, if_pos h4]; rfl
          have e2 : progL m bs = [] := by unfold progL; rw [e1]; rfl
          repeat (first | refine xst ?_ | refine xar ?_ | refine xop ?_ | refine xlen ?_ | refine xld rfl ?_ | refine xsto rfl ?_ | refine xno ?_ | refine xt ?_ | refine xf ?_)
          refine xcall (new_spec 8 0) ?_
          rintro v H rfl
          refine G.app ?_
          refine G.fact (chain (newF 8 0) v) (P := oneC v = true) (fun w F h => chain_one h) fun ho => ?_
          repeat (first | refine xst ?_ | refine xar ?_ | refine xop ?_ | refine xlen ?_ | refine xld rfl ?_ | refine xsto rfl ?_ | refine xno ?_ | refine xt ?_ | refine xf ?_)
          refine G.sln 4 ?_
          refine xretp [0, 0] ?_
          rw [e1, e2]
          exact ⟨none, 0, v, rfl, ho, rfl⟩
        · have e1 : progF m bs = inF (decF bs) m.ver.toNat := by unfold progF; rw [if_neg (by rw [h1]; simp), if_neg h2, if_neg h3, if_neg h4]
          have hin : inF (decF bs) m.ver.toNat = [] ↔ decF bs = [] := by unfold inF; split <;> simp_all
          have e2 : progL m bs = decL bs := by unfold progL decL; rw [e1]; simp only [hin]
          repeat (first | refine xst ?_ | refine xar ?_ | refine xop ?_ | refine xlen ?_ | refine xld rfl ?_ | refine xsto rfl ?_ | refine xno ?_ | refine xt ?_ | refine xf ?_)
          refine xcall (decode_spec a bs.length cap bs rfl hl) ?_
          rintro v H ⟨a', cap', e, rfl, he, rfl⟩
          refine G.app ?_
          cases hd : decF bs with
          | nil =>
            refine G.fact (chain [] e) (P := e = .nilIface) (fun w F h => h) fun h => ?_
            subst h
            repeat (first | refine xst ?_ | refine xar ?_ | refine xop ?_ | refine xlen ?_ | refine xld rfl ?_ | refine xsto rfl ?_ | refine xno ?_ | refine xt ?_ | refine xf ?_)
            refine xretp [0, 0] ?_
            rw [e1, e2, hd]
            exact ⟨a', cap', _, rfl, rfl, rfl⟩
          | cons q r =>
            obtain ⟨c, x⟩ := q
            refine G.fact (chain ((c, x) :: r) e) (P := ∃ b : Nat, e = .iface 179 (.pointer (some ⟨b, 0, none⟩))) (fun w F h => by obtain ⟨b, u, F1, F2, ⟨h1, h2⟩, _⟩ := h; exact ⟨b, h1⟩) fun h => ?_
            obtain ⟨b2, rfl⟩ := h
            have hver := m.ver.toNat_lt
            repeat (first | refine xst ?_ | refine xar ?_ | refine xop ?_ | refine xlen ?_ | refine xld rfl ?_ | refine xsto rfl ?_ | refine xno ?_ | refine xt ?_ | refine xf ?_)
            refine xE 48 (.int .i64 (m.ver.toNat : Int)) rfl (by first | rfl | exact congrArg (Value.int .i64) (wrap_nat (by omega))) ?_
            refine xcall (in_spec ((c, x) :: r) (.iface 179 (.pointer (some ⟨b2, 0, none⟩))) (m.ver.toNat : Int) rfl) ?_
            rintro v H rfl
            refine G.app ?_
            refine G.fact (chain (inF ((c, x) :: r) m.ver.toNat) v) (P := oneC v = true) (fun w F h => chain_one h) fun ho => ?_
            repeat (first | refine xst ?_ | refine xar ?_ | refine xop ?_ | refine xlen ?_ | refine xld rfl ?_ | refine xsto rfl ?_ | refine xno ?_ | refine xt ?_ | refine xf ?_)
            refine G.sln 4 ?_
            refine xretp [0, 0] ?_
            have e3 : decL bs = [] := by unfold decL; rw [hd]; rfl
            rw [e1, e2, e3, hd]
            exact ⟨none, 0, v, rfl, ho, rfl⟩
end Go.Proofs.YtdalmiacjicgpaaGreatDoor

/- image: Finish, Check, Begin. -/
namespace Go.Proofs.YtdalmiacjicgpaaGreatDoor
open Go.W

def stgV (m : Man) (s : Value) : List Value := m.v ++ [s]
theorem stgV_len {m : Man} (h : m.sum.length = 32) (s : Value) : (stgV m s).length = 36 := by unfold stgV; rw [List.length_append, Man.v_len h]; rfl
theorem stgV_man {m : Man} (h : m.sum.length = 32) (s : Value) {i : TI} (ha : i.agg = true) (hs : i.size = 35) : partF i (stgV m s) (0 + 0) = some (.agg m.v.toArray) := by
  rw [partF_agg ha (by rw [stgV_len h, hs]; exact Nat.le_of_ble_eq_true rfl), hs]
  show some (Value.agg ((m.v ++ [s]).take 35).toArray) = _
  rw [List.take_append_of_le_length (by rw [Man.v_len h]; exact Nat.le_refl _), List.take_of_length_le (by rw [Man.v_len h]; exact Nat.le_refl _)]
theorem stgV_got {m : Man} (h : m.sum.length = 32) (s : Value) {i : TI} (ha : i.agg = false) : partF i (stgV m s) (0 + 35) = some s := by
  refine partF_one ha ?_
  unfold stgV
  rw [List.getElem?_append_right (by rw [Man.v_len h]; exact Nat.le_of_ble_eq_true rfl), Man.v_len h]; rfl
theorem stgV_one (m : Man) {s : Value} (hs : s.oneCell' = true) : ∀ v ∈ stgV m s, v.oneCell' = true := by
  intro v hv
  rcases List.mem_append.1 hv with hv | hv
  · exact m.v_one v hv
  · obtain rfl := List.mem_singleton.1 hv; exact hs
def man0 : Man := ⟨0, 0, 0, List.replicate 32 0⟩
def stg0 : List Value := stgV man0 (.slice none 0 0)

theorem finish_spec (m : Man) (hs : m.sum.length = 32) (a : Option Addr) (n cap : Nat) (bs : List UInt8) (hn : n = bs.length) (hl : n ≤ 1000000) : Fun Tryz.prog 42 [.agg (stgV m (.slice a n cap)).toArray] [gErr, kV, iniV, slR 1 a n cap (bsV bs)] []
    fun v H => ∃ a' cap' e, v = .tuple #[.slice a' (progL m bs).length cap', e] ∧ oneC e = true ∧ H = [sl 4 a' (progL m bs).length cap' (inssV (progL m bs)), chain (progF m bs) e] := by
  subst hn
  refine xenter (p := pg) Tryz.call42 Tryz.func42 fun C => ?_
  haveI : RP C gErr := RP.of C (by simp)
  haveI : RP C kV := RP.of C (by simp)
  haveI : RP C iniV := RP.of C (by simp)
  haveI hr := RP.slR (RP.of C (X := slR 1 a bs.length cap (bsV bs)) (by simp))
  repeat (first | refine xst ?_ | refine xar ?_ | refine xop ?_ | refine xlen ?_ | refine xld rfl ?_ | refine xsto rfl ?_ | refine xno ?_ | refine xt ?_ | refine xf ?_)
  refine xnew fun b => ?_
  refine xrep 0 (stgV m (.slice a bs.length cap)) rfl rfl ?_
  repeat (first | refine xst ?_ | refine xar ?_ | refine xop ?_ | refine xlen ?_ | refine xld rfl ?_ | refine xsto rfl ?_ | refine xno ?_ | refine xt ?_ | refine xf ?_)
  refine xld rfl ?_ (hv := stgV_man hs _ rfl rfl)
  repeat (first | refine xst ?_ | refine xar ?_ | refine xop ?_ | refine xlen ?_ | refine xld rfl ?_ | refine xsto rfl ?_ | refine xno ?_ | refine xt ?_ | refine xf ?_)
  refine xld rfl ?_ (hv := stgV_got hs _ rfl)
  refine xcall (program_spec m hs a bs.length cap bs rfl hl) ?_
  rintro v H ⟨a', cap', e, rfl, he, rfl⟩
  refine G.app ?_
  repeat (first | refine xst ?_ | refine xar ?_ | refine xop ?_ | refine xlen ?_ | refine xld rfl ?_ | refine xsto rfl ?_ | refine xno ?_ | refine xt ?_ | refine xf ?_)
  refine xretp [0, 0] ?_
  exact ⟨a', cap', e, rfl, he, rfl⟩

theorem icheck_spec (m : Man) (hs : m.sum.length = 32) (a : Option Addr) (n cap : Nat) (bs : List UInt8) (hn : n = bs.length) (hl : n ≤ 1000000) : Fun Tryz.prog 77 [.agg m.v.toArray, .slice a n cap] [gErr, kV, iniV, slR 1 a n cap (bsV bs)] []
    fun v H => oneC v = true ∧ H = [chain (progF m bs) v] := by
  subst hn
  refine xenter (p := pg) Tryz.call77 Tryz.func77 fun C => ?_
  haveI : RP C gErr := RP.of C (by simp)
  haveI : RP C kV := RP.of C (by simp)
  haveI : RP C iniV := RP.of C (by simp)
  haveI hr := RP.slR (RP.of C (X := slR 1 a bs.length cap (bsV bs)) (by simp))
  have hml := Man.v_len hs
  repeat (first | refine xst ?_ | refine xar ?_ | refine xop ?_ | refine xlen ?_ | refine xld rfl ?_ | refine xsto rfl ?_ | refine xno ?_ | refine xt ?_ | refine xf ?_)
  refine xnew fun b => ?_
  refine xrep 0 m.v rfl rfl ?_
  repeat (first | refine xst ?_ | refine xar ?_ | refine xop ?_ | refine xlen ?_ | refine xld rfl ?_ | refine xsto rfl ?_ | refine xno ?_ | refine xt ?_ | refine xf ?_)
  refine xld rfl ?_ (hv := partF_all rfl hml)
  repeat (first | refine xst ?_ | refine xar ?_ | refine xop ?_ | refine xlen ?_ | refine xld rfl ?_ | refine xsto rfl ?_ | refine xno ?_ | refine xt ?_ | refine xf ?_)
  refine xcall (program_spec m hs a bs.length cap bs rfl hl) ?_
  rintro v H ⟨a', cap', e, rfl, he, rfl⟩
  refine G.app ?_
  repeat (first | refine xst ?_ | refine xar ?_ | refine xop ?_ | refine xlen ?_ | refine xld rfl ?_ | refine xsto rfl ?_ | refine xno ?_ | refine xt ?_ | refine xf ?_)
  refine xretp [1] ?_
  exact ⟨he, rfl⟩

theorem begin_spec (m : Man) (hs : m.sum.length = 32) : Fun Tryz.prog 37 [.agg m.v.toArray] [] []
    fun v H => v = .tuple #[.agg (if m.ok = true then stgV m (.slice none 0 0) else stg0).toArray, .int .i64 (if m.ok = true then 0 else 1)] ∧ H = [] := by
  refine xenter (p := pg) Tryz.call37 Tryz.func37 fun C => ?_
  have hml := Man.v_len hs
  have hsl := stgV_len hs (.slice none 0 0)
  repeat (first | refine xst ?_ | refine xar ?_ | refine xop ?_ | refine xlen ?_ | refine xld rfl ?_ | refine xsto rfl ?_ | refine xno ?_ | refine xt ?_ | refine xf ?_)
  refine xnew fun b => ?_
  refine xnew fun b2 => ?_
  refine xrep 1 m.v rfl rfl ?_
  refine xrep 1 stg0 rfl rfl ?_
  repeat (first | refine xst ?_ | refine xar ?_ | refine xop ?_ | refine xlen ?_ | refine xld rfl ?_ | refine xsto rfl ?_ | refine xno ?_ | refine xt ?_ | refine xf ?_)
  refine xld rfl ?_ (hv := partF_all rfl hml)
  refine xcall (valid_spec m hs) ?_
  rintro v H ⟨rfl, rfl⟩
  refine G.app ?_
  repeat (first | refine xst ?_ | refine xar ?_ | refine xop ?_ | refine xlen ?_ | refine xld rfl ?_ | refine xsto rfl ?_ | refine xno ?_ | refine xt ?_ | refine xf ?_)
  refine xb (fun h1 => ?_) (fun h1 => ?_)
  · have h1 : m.ok = false := by simpa using h1
    repeat (first | refine xst ?_ | refine xar ?_ | refine xop ?_ | refine xlen ?_ | refine xld rfl ?_ | refine xsto rfl ?_ | refine xno ?_ | refine xt ?_ | refine xf ?_)
    refine xrep 0 stg0 rfl rfl ?_
    refine xretm [] rfl (.c (.t .nil) rfl rfl (partF_all rfl rfl)) ?_
    rw [if_neg (by rw [h1]; simp), if_neg (by rw [h1]; simp)]
    exact ⟨rfl, rfl⟩
  · have h1 : m.ok = true := by simpa using h1
    repeat (first | refine xst ?_ | refine xar ?_ | refine xop ?_ | refine xlen ?_ | refine xld rfl ?_ | refine xsto rfl ?_ | refine xno ?_ | refine xt ?_ | refine xf ?_)
    refine xld rfl ?_ (hv := partF_all rfl hml)
    refine xbuild (stgV m (.slice none 0 0)) rfl (fillF_cons rfl hml (by exact Nat.le_of_ble_eq_true rfl) (congrArg some rfl)) ?_
    refine xsta (cs := stgV m (.slice none 0 0)) rfl hsl (stgV_one m rfl) (stgV m (.slice none 0 0)) (put_all (by rw [hsl]; rfl)) (by rw [hsl]; exact Nat.le_of_ble_eq_true rfl) ?_
    repeat (first | refine xst ?_ | refine xar ?_ | refine xop ?_ | refine xlen ?_ | refine xld rfl ?_ | refine xsto rfl ?_ | refine xno ?_ | refine xt ?_ | refine xf ?_)
    refine xretm [] rfl (.c (.t .nil) rfl rfl (partF_all rfl hsl)) ?_
    rw [if_pos h1, if_pos h1]
    exact ⟨rfl, rfl⟩

theorem putk_spec (n k : Nat) (h1 : 1 ≤ k) (h8 : k ≤ 8) (hn : n < 18446744073709551616) : Fun Tryz.prog 106 [.int .u64 (n : Int), .int .i64 (k : Int)] [] []
    fun v H => ∃ a cap, v = .slice a k cap ∧ H = [sl 1 a k cap (bsV (putB n k))] := by
  refine (put_spec n k hn).mono ?_
  rintro v H ⟨a, cap, rfl, rfl⟩
  have e : putO n (k : Int) = putB n k := by unfold putO; rw [if_pos (by omega)]; rfl
  rw [e, putB_length]
  exact ⟨a, cap, rfl, rfl⟩
def encM (m : Man) : List UInt8 := if m.ok = true then [77] ++ putB m.part.toNat 1 ++ putB m.ver.toNat 4 ++ putB m.size.toNat 2 ++ m.sum else []
theorem iencode_spec (m : Man) (hs : m.sum.length = 32) : Fun Tryz.prog 158 [.agg m.v.toArray] [] []
    fun v H => ∃ a cap, v = .slice a (encM m).length cap ∧ H = [sl 1 a (encM m).length cap (bsV (encM m))] := by
  refine xenter (p := pg) Tryz.call158 Tryz.func158 fun C => ?_
  have hml := Man.v_len hs
  repeat (first | refine xst ?_ | refine xar ?_ | refine xop ?_ | refine xlen ?_ | refine xld rfl ?_ | refine xsto rfl ?_ | refine xno ?_ | refine xt ?_ | refine xf ?_)
  refine xnew fun b => ?_
  refine xrep 0 m.v rfl rfl ?_
  repeat (first | refine xst ?_ | refine xar ?_ | refine xop ?_ | refine xlen ?_ | refine xld rfl ?_ | refine xsto rfl ?_ | refine xno ?_ | refine xt ?_ | refine xf ?_)
  refine xld rfl ?_ (hv := partF_all rfl hml)
  refine xcall (valid_spec m hs) ?_
  rintro v H ⟨rfl, rfl⟩
  refine G.app ?_
  repeat (first | refine xst ?_ | refine xar ?_ | refine xop ?_ | refine xlen ?_ | refine xld rfl ?_ | refine xsto rfl ?_ | refine xno ?_ | refine xt ?_ | refine xf ?_)
  refine xb (fun h1 => ?_) (fun h1 => ?_)
  · have h1 : m.ok = false := by simpa using h1
    repeat (first | refine xst ?_ | refine xar ?_ | refine xop ?_ | refine xlen ?_ | refine xld rfl ?_ | refine xsto rfl ?_ | refine xno ?_ | refine xt ?_ | refine xf ?_)
    refine G.sln 1 ?_
    refine xretp [0] ?_
    have e : encM m = [] := by unfold encM; rw [if_neg (by rw [h1]; simp)]
    rw [e]
    exact ⟨none, 0, rfl, rfl⟩
  · have h1 : m.ok = true := by simpa using h1
    have hok : 0 ≤ m.part ∧ m.part < 8 ∧ 4 ≤ m.size ∧ m.size ≤ 512 := by
      unfold Man.ok at h1; rw [decide_eq_true_eq] at h1; omega
    repeat (first | refine xst ?_ | refine xar ?_ | refine xop ?_ | refine xlen ?_ | refine xld rfl ?_ | refine xsto rfl ?_ | refine xno ?_ | refine xt ?_ | refine xf ?_)
    refine xmake 0 40 rfl rfl rfl (by omega) (by omega) (by omega) fun b2 => ?_
    repeat (first | refine xst ?_ | refine xar ?_ | refine xop ?_ | refine xlen ?_ | refine xld rfl ?_ | refine xsto rfl ?_ | refine xno ?_ | refine xt ?_ | refine xf ?_)
    refine xbsl fun b3 => ?_
    refine xapp (zeros 0 [.int .u8 0]) rfl (SrcOk.blk (ys := bsV [77]) rfl (by simp) (bsV_one _)) (by omega) fun a1 c1 => ?_
    repeat (refine xnot 14 ?_; first | refine xst ?_ | refine xar ?_ | refine xop ?_ | refine xlen ?_ | refine xld rfl ?_ | refine xsto rfl ?_ | refine xno ?_ | refine xt ?_ | refine xf ?_)
    refine xE 14 (.int .u64 (m.part.toNat : Int)) rfl (congrArg (Value.int .u64) (by rw [show m.part = (m.part.toNat : Int) by omega, u64_wrap (by omega)]; simp)) ?_
    refine xcall (putk_spec m.part.toNat 1 (by omega) (by omega) (by omega)) ?_
    rintro v H ⟨p1, pc1, rfl, rfl⟩
    refine G.app ?_
    refine xapp (zeros 0 [.int .u8 0] ++ bsV [77]) rfl (SrcOk.sl (ys := bsV (putB m.part.toNat 1)) (by rw [bsV_length, putB_length]) (bsV_one _)) (by omega) fun a2 c2 => ?_
    repeat (refine xnot 20 ?_; first | refine xst ?_ | refine xar ?_ | refine xop ?_ | refine xlen ?_ | refine xld rfl ?_ | refine xsto rfl ?_ | refine xno ?_ | refine xt ?_ | refine xf ?_)
    have hv := m.ver.toNat_lt
    refine xE 20 (.int .u64 (m.ver.toNat : Int)) rfl (congrArg (Value.int .u64) (u64_wrap (by omega))) ?_
    refine xcall (putk_spec m.ver.toNat 4 (by omega) (by omega) (by omega)) ?_
    rintro v H ⟨p2, pc2, rfl, rfl⟩
    refine G.app ?_
    refine xapp (zeros 0 [.int .u8 0] ++ bsV [77] ++ bsV (putB m.part.toNat 1)) rfl (SrcOk.sl (ys := bsV (putB m.ver.toNat 4)) (by rw [bsV_length, putB_length]) (bsV_one _)) (by omega) fun a3 c3 => ?_
    repeat (refine xnot 26 ?_; first | refine xst ?_ | refine xar ?_ | refine xop ?_ | refine xlen ?_ | refine xld rfl ?_ | refine xsto rfl ?_ | refine xno ?_ | refine xt ?_ | refine xf ?_)
    refine xE 26 (.int .u64 (m.size.toNat : Int)) rfl (congrArg (Value.int .u64) (by rw [show m.size = (m.size.toNat : Int) by omega, u64_wrap (by omega)]; simp)) ?_
    refine xcall (putk_spec m.size.toNat 2 (by omega) (by omega) (by omega)) ?_
    rintro v H ⟨p3, pc3, rfl, rfl⟩
    refine G.app ?_
    refine xapp (zeros 0 [.int .u8 0] ++ bsV [77] ++ bsV (putB m.part.toNat 1) ++ bsV (putB m.ver.toNat 4)) rfl (SrcOk.sl (ys := bsV (putB m.size.toNat 2)) (by rw [bsV_length, putB_length]) (bsV_one _)) (by omega) fun a4 c4 => ?_
    repeat (first | refine xst ?_ | refine xar ?_ | refine xop ?_ | refine xlen ?_ | refine xld rfl ?_ | refine xsto rfl ?_ | refine xno ?_ | refine xt ?_ | refine xf ?_)
    refine xslice 0 32 rfl rfl rfl (by omega) (by omega) ?_
    refine xE 31 (.slice (some ⟨b, 3, none⟩) 32 32) rfl (congrArg (fun z => Value.slice z 32 32) ((subA_lt (by omega)).trans rfl)) ?_
    refine xapp (zeros 0 [.int .u8 0] ++ bsV [77] ++ bsV (putB m.part.toNat 1) ++ bsV (putB m.ver.toNat 4) ++ bsV (putB m.size.toNat 2)) rfl (SrcOk.blk (ys := bsV m.sum) (by show (bsV m.sum).take 32 = _; rw [List.take_of_length_le (by rw [bsV_length, hs]; exact Nat.le_refl _)]) (by rw [hml]; exact Nat.le_of_ble_eq_true rfl) (bsV_one _)) (by omega) fun a5 c5 => ?_
    repeat (first | refine xst ?_ | refine xar ?_ | refine xop ?_ | refine xlen ?_ | refine xld rfl ?_ | refine xsto rfl ?_ | refine xno ?_ | refine xt ?_ | refine xf ?_)
    refine xretp [0] ?_
    have e : encM m = [77] ++ putB m.part.toNat 1 ++ putB m.ver.toNat 4 ++ putB m.size.toNat 2 ++ m.sum := by unfold encM; rw [if_pos h1]
    have el : (encM m).length = 40 := by rw [e]; simp [putB_length, hs]
    rw [el, e]
    simp only [bsV_append]
    exact ⟨a5, c5, rfl, rfl⟩
end Go.Proofs.YtdalmiacjicgpaaGreatDoor

/- bytes.Join of two pieces. -/
namespace Go.Proofs.YtdalmiacjicgpaaGreatDoor
open Go.W

theorem noz_ext (n : Nat) (hn : n ≤ 281474976710656) : Ext Tryz.prog 130 [.int .i64 n] fun v H => ∃ (b : Nat) (cs : List Value), n ≤ cs.length ∧ v = .slice (some ⟨b, 0, none⟩) n cs.length ∧ H = [pts b cs] :=
  noZero_ext #[3] (t := 23) (e := 5) Tryz.underlying23 hn (fun w => callFunc_ext Tryz.func130 (by kernel_rfl) rfl (by kernel_rfl) (by kernel_rfl))
def totF (n1 n2 : Nat) : Nat → Nat
  | 0 => 0
  | 1 => n1
  | _ => n1 + n2
theorem join_spec (pb : Nat) (a1 a2 : Option Addr) (n1 c1 n2 c2 : Nat) (xs ys : List UInt8) (h1 : n1 = xs.length) (h2 : n2 = ys.length) (hl : n1 + n2 ≤ 100000000) :
    Fun Tryz.prog 83 [.slice (some ⟨pb, 0, none⟩) 2 2, .slice none 0 0] [rdb pb [.slice a1 n1 c1, .slice a2 n2 c2], slR 1 a1 n1 c1 (bsV xs), slR 1 a2 n2 c2 (bsV ys)] []
    fun v H => ∃ b, v = .slice (some ⟨b, 0, none⟩) (n1 + n2) (n1 + n2) ∧ H = [sl 1 (some ⟨b, 0, none⟩) (n1 + n2) (n1 + n2) (bsV (xs ++ ys))] := by
  refine xenter (p := pg) Tryz.call83 Tryz.func83 fun C => ?_
  haveI := RB.of C (b := pb) (l := [.slice a1 n1 c1, .slice a2 n2 c2]) (by simp)
  have hr1 := RP.slR (RP.of C (X := slR 1 a1 n1 c1 (bsV xs)) (by simp))
  have hr2 := RP.slR (RP.of C (X := slR 1 a2 n2 c2 (bsV ys)) (by simp))
  repeat (first | refine xst ?_ | refine xar ?_ | refine xop ?_ | refine xlen ?_ | refine xld rfl ?_ | refine xsto rfl ?_ | refine xno ?_ | refine xt ?_ | refine xf ?_)
  refine G.loop (σ := Nat) (fun k => [(0, .slice (some ⟨pb, 0, none⟩) 2 2), (1, .slice none 0 0), (5, .int .i64 (totF n1 n2 k : Int)), (42, .slice (some ⟨pb, 0, none⟩) 2 2), (43, .int .i64 2), (44, .int .i64 (k : Int))])
    (fun _ => []) (fun k => k ≤ 2) (fun k => 2 - k) 0 (Nat.zero_le _) ⟨rfl, rfl, rfl, rfl, rfl, rfl, trivial⟩ (Ent.refl _) ?_
  intro k hk
  repeat (first | refine xst ?_ | refine xar ?_ | refine xop ?_ | refine xlen ?_ | refine xld rfl ?_ | refine xsto rfl ?_ | refine xno ?_ | refine xt ?_ | refine xf ?_)
  refine xd (fun h3 => ?_) (fun h3 => ?_)
  · obtain rfl | rfl : k = 0 ∨ k = 1 := by omega
    · refine xE 5 (.int .i64 0) rfl rfl ?_
      repeat (first | refine xst ?_ | refine xar ?_ | refine xop ?_ | refine xlen ?_ | refine xld rfl ?_ | refine xsto rfl ?_ | refine xno ?_ | refine xt ?_ | refine xf ?_)
      refine xix ?_ (hk := Nat.le_of_ble_eq_true rfl)
      repeat (first | refine xst ?_ | refine xar ?_ | refine xop ?_ | refine xlen ?_ | refine xld rfl ?_ | refine xsto rfl ?_ | refine xno ?_ | refine xt ?_ | refine xf ?_)
      refine xd (fun h4 => ?_) (fun h4 => ?_)
      · omega
      repeat (first | refine xst ?_ | refine xar ?_ | refine xop ?_ | refine xlen ?_ | refine xld rfl ?_ | refine xsto rfl ?_ | refine xno ?_ | refine xt ?_ | refine xf ?_)
      refine xE 5 (.int .i64 (n1 : Int)) rfl (by rw [Int.zero_add]) ?_
      exact G.fin 1 ⟨by omega, by omega⟩ ⟨rfl, rfl, rfl, rfl, rfl, rfl, trivial⟩ ent_pick
    · refine xE 5 (.int .i64 (n1 : Int)) rfl rfl ?_
      repeat (first | refine xst ?_ | refine xar ?_ | refine xop ?_ | refine xlen ?_ | refine xld rfl ?_ | refine xsto rfl ?_ | refine xno ?_ | refine xt ?_ | refine xf ?_)
      refine xix ?_ (hk := Nat.le_of_ble_eq_true rfl)
      repeat (first | refine xst ?_ | refine xar ?_ | refine xop ?_ | refine xlen ?_ | refine xld rfl ?_ | refine xsto rfl ?_ | refine xno ?_ | refine xt ?_ | refine xf ?_)
      refine xd (fun h4 => ?_) (fun h4 => ?_)
      · omega
      repeat (first | refine xst ?_ | refine xar ?_ | refine xop ?_ | refine xlen ?_ | refine xld rfl ?_ | refine xsto rfl ?_ | refine xno ?_ | refine xt ?_ | refine xf ?_)
      refine xE 5 (.int .i64 ((n1 + n2 : Nat) : Int)) rfl (by rw [Int.natCast_add]) ?_
      exact G.fin 2 ⟨by omega, by omega⟩ ⟨rfl, rfl, rfl, rfl, rfl, rfl, trivial⟩ ent_pick
  · obtain rfl : k = 2 := by omega
    refine xE 5 (.int .i64 ((n1 + n2 : Nat) : Int)) rfl rfl ?_
    repeat (first | refine xst ?_ | refine xar ?_ | refine xop ?_ | refine xlen ?_ | refine xld rfl ?_ | refine xsto rfl ?_ | refine xno ?_ | refine xt ?_ | refine xf ?_)
    refine xext (noz_ext (n1 + n2) (by omega)) ?_
    rintro v H ⟨b, cs, hcs, rfl, rfl⟩
    refine G.app ?_
    repeat (first | refine xst ?_ | refine xar ?_ | refine xop ?_ | refine xlen ?_ | refine xld rfl ?_ | refine xsto rfl ?_ | refine xno ?_ | refine xt ?_ | refine xf ?_)
    refine xslice3 (n1 + n2) (n1 + n2) rfl rfl rfl (Nat.le_refl _) hcs ?_
    repeat (first | refine xst ?_ | refine xar ?_ | refine xop ?_ | refine xlen ?_ | refine xld rfl ?_ | refine xsto rfl ?_ | refine xno ?_ | refine xt ?_ | refine xf ?_)
    refine xix ?_ (hk := Nat.le_of_ble_eq_true rfl)
    repeat (first | refine xst ?_ | refine xar ?_ | refine xop ?_ | refine xlen ?_ | refine xld rfl ?_ | refine xsto rfl ?_ | refine xno ?_ | refine xt ?_ | refine xf ?_)
    have hxl : (bsV xs).length = n1 := by rw [bsV_length, h1]
    have hyl : (bsV ys).length = n2 := by rw [bsV_length, h2]
    refine xcopy rfl (SrcOk.rs hr1 (bsV_one _)) n1 (Nat.min_eq_left (by omega)) (bsV xs ++ cs.drop n1) (by rw [Nat.mul_one, List.take_zero, List.nil_append, List.take_of_length_le (by omega), Nat.zero_add]) (by omega) ?_
    repeat (first | refine xst ?_ | refine xar ?_ | refine xop ?_ | refine xlen ?_ | refine xld rfl ?_ | refine xsto rfl ?_ | refine xno ?_ | refine xt ?_ | refine xf ?_)
    refine xslice 1 2 rfl rfl rfl (by omega) (by omega) ?_
    refine xE 70 (.slice (some ⟨pb, 1, none⟩) 1 1) rfl (congrArg (fun z => Value.slice z 1 1) (subA_lt (by omega))) ?_
    repeat (first | refine xst ?_ | refine xar ?_ | refine xop ?_ | refine xlen ?_ | refine xld rfl ?_ | refine xsto rfl ?_ | refine xno ?_ | refine xt ?_ | refine xf ?_)
    refine G.loop (σ := Nat) (fun k => [(1, .slice none 0 0), (8, .slice (some ⟨b, 0, none⟩) (n1 + n2) (n1 + n2)), (9, .int .i64 ((if k = 0 then n1 else n1 + n2 : Nat) : Int)), (70, .slice (some ⟨pb, 1, none⟩) 1 1), (71, .int .i64 1), (72, .int .i64 (k : Int))])
      (fun k => [pts b (if k = 0 then bsV xs ++ cs.drop n1 else bsV xs ++ bsV ys ++ cs.drop (n1 + n2))]) (fun k => k ≤ 1) (fun k => 1 - k) 0 (Nat.zero_le _) ⟨rfl, rfl, rfl, rfl, rfl, rfl, trivial⟩ (Ent.refl _) ?_
    intro k hk2
    obtain rfl | rfl : k = 0 ∨ k = 1 := by omega
    · refine xrep 0 (bsV xs ++ cs.drop n1) rfl rfl ?_
      refine xE 9 (.int .i64 (n1 : Int)) rfl rfl ?_
      repeat (first | refine xst ?_ | refine xar ?_ | refine xop ?_ | refine xlen ?_ | refine xld rfl ?_ | refine xsto rfl ?_ | refine xno ?_ | refine xt ?_ | refine xf ?_)
      refine xix ?_ (hk := Nat.le_of_ble_eq_true rfl)
      repeat (first | refine xst ?_ | refine xar ?_ | refine xop ?_ | refine xlen ?_ | refine xld rfl ?_ | refine xsto rfl ?_ | refine xno ?_ | refine xt ?_ | refine xf ?_)
      refine xslice n1 (n1 + n2) rfl rfl rfl (by omega) (by omega) ?_
      obtain ⟨off, ho, hoff⟩ : ∃ off, subA (some ⟨b, 0, none⟩) n1 1 (n1 + n2) = some ⟨b, off, none⟩ ∧ (off = n1 ∨ (n2 = 0 ∧ off = 0)) := by
        by_cases h0 : n2 = 0
        · exact ⟨0, by unfold subA; rw [if_pos (by omega)], .inr ⟨h0, rfl⟩⟩
        · exact ⟨n1, by rw [subA_lt (by omega)]; simp, .inl rfl⟩
      have hdst : Value.slice (subA (some ⟨b, 0, none⟩) n1 1 (n1 + n2)) (n1 + n2 - n1) (n1 + n2 - n1) = .slice (some ⟨b, off, none⟩) n2 n2 := by
        rw [ho, Nat.add_sub_cancel_left]
      have hrow : (bsV xs ++ cs.drop n1).length = cs.length := by rw [List.length_append, hxl, List.length_drop]; omega
      refine xE 79 (.slice (some ⟨b, off, none⟩) n2 n2) rfl hdst ?_
      repeat (first | refine xst ?_ | refine xar ?_ | refine xop ?_ | refine xlen ?_ | refine xld rfl ?_ | refine xsto rfl ?_ | refine xno ?_ | refine xt ?_ | refine xf ?_)
      refine xcopy rfl (SrcOk.nil) 0 (Nat.zero_min _) (bsV xs ++ cs.drop n1) (by simp) (by rw [hrow]; omega) ?_
      repeat (refine xnot 82 ?_; first | refine xst ?_ | refine xar ?_ | refine xop ?_ | refine xlen ?_ | refine xld rfl ?_ | refine xsto rfl ?_ | refine xno ?_ | refine xt ?_ | refine xf ?_)
      refine xE 82 (.int .i64 (n1 : Int)) rfl (by simp) ?_
      repeat (first | refine xst ?_ | refine xar ?_ | refine xop ?_ | refine xlen ?_ | refine xld rfl ?_ | refine xsto rfl ?_ | refine xno ?_ | refine xt ?_ | refine xf ?_)
      refine xslice n1 (n1 + n2) rfl rfl rfl (by omega) (by omega) ?_
      refine xE 86 (.slice (some ⟨b, off, none⟩) n2 n2) rfl hdst ?_
      repeat (first | refine xst ?_ | refine xar ?_ | refine xop ?_ | refine xlen ?_ | refine xld rfl ?_ | refine xsto rfl ?_ | refine xno ?_ | refine xt ?_ | refine xf ?_)
      have hput : (bsV xs ++ cs.drop n1).take off ++ (bsV ys).take (n2 * 1) ++ (bsV xs ++ cs.drop n1).drop (off + n2 * 1) = bsV xs ++ bsV ys ++ cs.drop (n1 + n2) := by
        rw [Nat.mul_one, List.take_of_length_le (l := bsV ys) (by omega)]
        rcases hoff with rfl | ⟨h0, rfl⟩
        · rw [List.take_append_of_le_length (by omega), List.take_of_length_le (l := bsV xs) (by omega), List.drop_append, List.drop_eq_nil_of_le (by omega), List.nil_append, hxl, Nat.add_sub_cancel_left, List.drop_drop]
        · subst h0
          have : bsV ys = [] := List.eq_nil_of_length_eq_zero hyl
          rw [this]; simp
      refine xcopy rfl (SrcOk.rs hr2 (bsV_one _)) n2 (Nat.min_self _) (bsV xs ++ bsV ys ++ cs.drop (n1 + n2)) hput (by rw [hrow]; omega) ?_
      repeat (refine xnot 89 ?_; first | refine xst ?_ | refine xar ?_ | refine xop ?_ | refine xlen ?_ | refine xld rfl ?_ | refine xsto rfl ?_ | refine xno ?_ | refine xt ?_ | refine xf ?_)
      refine xE 89 (.int .i64 ((n1 + n2 : Nat) : Int)) rfl (by rw [Int.natCast_add]) ?_
      repeat (first | refine xst ?_ | refine xar ?_ | refine xop ?_ | refine xlen ?_ | refine xld rfl ?_ | refine xsto rfl ?_ | refine xno ?_ | refine xt ?_ | refine xf ?_)
      exact G.fin 1 ⟨by omega, by omega⟩ ⟨rfl, rfl, rfl, rfl, rfl, rfl, trivial⟩ (by show Ent _ [pts b (bsV xs ++ bsV ys ++ cs.drop (n1 + n2))]; exact ent_pick)
    · refine xrep 0 (bsV xs ++ bsV ys ++ cs.drop (n1 + n2)) rfl rfl ?_
      repeat (first | refine xst ?_ | refine xar ?_ | refine xop ?_ | refine xlen ?_ | refine xld rfl ?_ | refine xsto rfl ?_ | refine xno ?_ | refine xt ?_ | refine xf ?_)
      refine G.slc (pk := ⟨remN_ent (n := 0) rfl⟩) 1 b 0 (n1 + n2) (n1 + n2) (bsV xs ++ bsV ys) [] (cs.drop (n1 + n2)) (by simp) rfl (by rw [List.length_append, hxl, hyl, Nat.mul_one]) (Nat.le_refl _) (by rw [List.length_append, hxl, hyl, Nat.mul_one]; omega) ?_
      refine xretp [0] ?_
      exact ⟨b, rfl, by rw [bsV_append]⟩
end Go.Proofs.YtdalmiacjicgpaaGreatDoor

/- image.Chunk. -/
namespace Go.Proofs.YtdalmiacjicgpaaGreatDoor
open Go.W

def chunkC (m : Man) (got : Nat) (at_ : Int) (n : Nat) : Int :=
  if m.ok = false ∨ (got : Int) > m.size then 1 else if at_ ≠ got then 4 else if (n : Int) > m.size - got then 7 else 0
theorem stg_fill {m : Man} (h : m.sum.length = 32) (x s : Value) : (m.v ++ [x]).take 35 ++ [s] ++ (m.v ++ [x]).drop (35 + 1) = stgV m s := by
  have hl := Man.v_len h
  rw [List.take_append_of_le_length (by omega), List.take_of_length_le (by omega), List.drop_eq_nil_of_le (by simp [hl]), List.append_nil]; rfl
theorem chunk_spec (m : Man) (hs : m.sum.length = 32) (a : Option Addr) (n cap : Nat) (got : List UInt8) (hn : n = got.length) (hl : n ≤ 1000000) (at_ : Int) (a2 : Option Addr) (n2 cap2 : Nat) (bs : List UInt8) (hn2 : n2 = bs.length) (_hl2 : n2 ≤ 1000000) :
    Fun Tryz.prog 40 [.agg (stgV m (.slice a n cap)).toArray, .int .i64 at_, .slice a2 n2 cap2] [slR 1 a n cap (bsV got), slR 1 a2 n2 cap2 (bsV bs)] []
    fun v H => ∃ s, v = .tuple #[.agg ⟨s⟩, .int .i64 (chunkC m n at_ n2)] ∧
      ((chunkC m n at_ n2 = 0 ∧ ∃ b, s = stgV m (.slice (some ⟨b, 0, none⟩) (n + n2) (n + n2)) ∧ H = [sl 1 (some ⟨b, 0, none⟩) (n + n2) (n + n2) (bsV (got ++ bs))]) ∨ (chunkC m n at_ n2 ≠ 0 ∧ s = stg0 ∧ H = [])) := by
  refine xenter (p := pg) Tryz.call40 Tryz.func40 fun C => ?_
  haveI hr1 := RP.slR (RP.of C (X := slR 1 a n cap (bsV got)) (by simp))
  haveI hr2 := RP.slR (RP.of C (X := slR 1 a2 n2 cap2 (bsV bs)) (by simp))
  have hsl := stgV_len hs (.slice a n cap)
  repeat (first | refine xst ?_ | refine xar ?_ | refine xop ?_ | refine xlen ?_ | refine xld rfl ?_ | refine xsto rfl ?_ | refine xno ?_ | refine xt ?_ | refine xf ?_)
  refine xnew fun b => ?_
  refine xnew fun b2 => ?_
  refine xrep 1 (stgV m (.slice a n cap)) rfl rfl ?_
  refine xrep 1 stg0 rfl rfl ?_
  have hsz : ∀ {i : TI}, i.agg = false → partF i (stgV m (.slice a n cap)) (0 + 0 + 2) = some (.int .i64 m.size) := fun ha => partF_one ha rfl
  have hbad : ∀ c : Int, c = chunkC m n at_ n2 → c ≠ 0 → ∃ s, Value.tuple #[.agg ⟨stg0⟩, .int .i64 c] = .tuple #[.agg ⟨s⟩, .int .i64 (chunkC m n at_ n2)] ∧
      ((chunkC m n at_ n2 = 0 ∧ ∃ b, s = stgV m (.slice (some ⟨b, 0, none⟩) (n + n2) (n + n2)) ∧ ([] : List HProp) = [sl 1 (some ⟨b, 0, none⟩) (n + n2) (n + n2) (bsV (got ++ bs))]) ∨ (chunkC m n at_ n2 ≠ 0 ∧ s = stg0 ∧ ([] : List HProp) = [])) := by
    rintro c rfl hc
    exact ⟨stg0, rfl, .inr ⟨hc, rfl, rfl⟩⟩
  repeat (first | refine xst ?_ | refine xar ?_ | refine xop ?_ | refine xlen ?_ | refine xld rfl ?_ | refine xsto rfl ?_ | refine xno ?_ | refine xt ?_ | refine xf ?_)
  refine xld rfl ?_ (hv := stgV_man hs _ rfl rfl)
  refine xcall (valid_spec m hs) ?_
  rintro v H ⟨rfl, rfl⟩
  refine G.app ?_
  repeat (first | refine xst ?_ | refine xar ?_ | refine xop ?_ | refine xlen ?_ | refine xld rfl ?_ | refine xsto rfl ?_ | refine xno ?_ | refine xt ?_ | refine xf ?_)
  refine xbb 17 (fun h1 => ?_) (fun h1 => ?_)
  · have h1 : m.ok = false := by simpa using h1
    repeat (first | refine xst ?_ | refine xar ?_ | refine xop ?_ | refine xlen ?_ | refine xld rfl ?_ | refine xsto rfl ?_ | refine xno ?_ | refine xt ?_ | refine xf ?_)
    refine xrep 0 stg0 rfl rfl ?_
    refine xretm [] rfl (.c (.t .nil) rfl rfl (partF_all rfl rfl)) ?_
    exact hbad 1 (by unfold chunkC; rw [if_pos (.inl h1)]) (by omega)
  · have h1 : m.ok = true := by simpa using h1
    have hsz2 : 4 ≤ m.size ∧ m.size ≤ 512 := by
      unfold Man.ok at h1; rw [decide_eq_true_eq] at h1; omega
    have hnk : ¬ (m.ok = false) := by rw [h1]; simp
    repeat (first | refine xst ?_ | refine xar ?_ | refine xop ?_ | refine xlen ?_ | refine xld rfl ?_ | refine xsto rfl ?_ | refine xno ?_ | refine xt ?_ | refine xf ?_)
    refine xld rfl ?_ (hv := stgV_got hs _ rfl)
    repeat (first | refine xst ?_ | refine xar ?_ | refine xop ?_ | refine xlen ?_ | refine xld rfl ?_ | refine xsto rfl ?_ | refine xno ?_ | refine xt ?_ | refine xf ?_)
    refine xd (fun h2 => ?_) (fun h2 => ?_)
    · repeat (first | refine xst ?_ | refine xar ?_ | refine xop ?_ | refine xlen ?_ | refine xld rfl ?_ | refine xsto rfl ?_ | refine xno ?_ | refine xt ?_ | refine xf ?_)
      refine xrep 0 stg0 rfl rfl ?_
      refine xretm [] rfl (.c (.t .nil) rfl rfl (partF_all rfl rfl)) ?_
      exact hbad 1 (by unfold chunkC; rw [if_pos (.inr h2)]) (by omega)
    · have e1 : ¬ (m.ok = false ∨ (n : Int) > m.size) := by rintro (h | h); exact hnk h; exact h2 h
      repeat (first | refine xst ?_ | refine xar ?_ | refine xop ?_ | refine xlen ?_ | refine xld rfl ?_ | refine xsto rfl ?_ | refine xno ?_ | refine xt ?_ | refine xf ?_)
      refine xld rfl ?_ (hv := stgV_got hs _ rfl)
      repeat (first | refine xst ?_ | refine xar ?_ | refine xop ?_ | refine xlen ?_ | refine xld rfl ?_ | refine xsto rfl ?_ | refine xno ?_ | refine xt ?_ | refine xf ?_)
      refine xd (fun h3 => ?_) (fun h3 => ?_)
      · repeat (first | refine xst ?_ | refine xar ?_ | refine xop ?_ | refine xlen ?_ | refine xld rfl ?_ | refine xsto rfl ?_ | refine xno ?_ | refine xt ?_ | refine xf ?_)
        refine xrep 0 stg0 rfl rfl ?_
        refine xretm [] rfl (.c (.t .nil) rfl rfl (partF_all rfl rfl)) ?_
        exact hbad 4 (by unfold chunkC; rw [if_neg e1, if_pos h3]) (by omega)
      · repeat (first | refine xst ?_ | refine xar ?_ | refine xop ?_ | refine xlen ?_ | refine xld rfl ?_ | refine xsto rfl ?_ | refine xno ?_ | refine xt ?_ | refine xf ?_)
        refine xld rfl ?_ (hv := stgV_got hs _ rfl)
        repeat (first | refine xst ?_ | refine xar ?_ | refine xop ?_ | refine xlen ?_ | refine xld rfl ?_ | refine xsto rfl ?_ | refine xno ?_ | refine xt ?_ | refine xf ?_)
        refine xd (fun h4 => ?_) (fun h4 => ?_)
        · repeat (first | refine xst ?_ | refine xar ?_ | refine xop ?_ | refine xlen ?_ | refine xld rfl ?_ | refine xsto rfl ?_ | refine xno ?_ | refine xt ?_ | refine xf ?_)
          refine xrep 0 stg0 rfl rfl ?_
          refine xretm [] rfl (.c (.t .nil) rfl rfl (partF_all rfl rfl)) ?_
          exact hbad 7 (by unfold chunkC; rw [if_neg e1, if_neg h3, if_pos h4]) (by omega)
        · have e0 : chunkC m n at_ n2 = 0 := by unfold chunkC; rw [if_neg e1, if_neg h3, if_neg h4]
          repeat (first | refine xst ?_ | refine xar ?_ | refine xop ?_ | refine xlen ?_ | refine xld rfl ?_ | refine xsto rfl ?_ | refine xno ?_ | refine xt ?_ | refine xf ?_)
          refine xdraw ?_
          refine xdop 0 ?_
          refine xdld 1 rfl rfl ?_ (hv := stgV_man hs _ rfl rfl)
          refine xdop 2 ?_
          refine xdld 3 rfl rfl ?_ (hv := stgV_got hs _ rfl)
          refine xdop 4 ?_
          refine xdact 5 ?_
          refine xbsl fun b3 => ?_
          refine xst ?_
          refine xdact 6 ?_
          refine xcall (join_spec b3 a a2 n cap n2 cap2 got bs hn hn2 (by omega)) ?_
          rintro v H ⟨b4, rfl, rfl⟩
          refine G.app ?_
          refine xst ?_
          refine xdbuild 7 (stgV m (.slice (some ⟨b4, 0, none⟩) (n + n2) (n + n2))) rfl rfl (fillF_cons rfl (Man.v_len hs) (by exact Nat.le_of_ble_eq_true rfl) (fillF_cons rfl rfl (by rw [show cellsL (.agg m.v.toArray) = m.v from rfl, List.length_append, List.length_append, Man.v_len hs]; exact Nat.le_of_ble_eq_true rfl) (congrArg some (stg_fill hs (.slice none 0 0) (.slice (some ⟨b4, 0, none⟩) (n + n2) (n + n2)))))) ?_
          refine xdact 8 ?_
          have hsl4 := stgV_len hs (.slice (some ⟨b4, 0, none⟩) (n + n2) (n + n2))
          refine xsta (cs := stgV m (.slice (some ⟨b4, 0, none⟩) (n + n2) (n + n2))) rfl hsl4 (stgV_one m rfl) (stgV m (.slice (some ⟨b4, 0, none⟩) (n + n2) (n + n2))) (put_all (by rw [hsl4]; rfl)) (by rw [hsl4]; exact Nat.le_of_ble_eq_true rfl) ?_
          refine xst ?_
          refine xdop 9 ?_
          refine xdend ?_
          repeat (first | refine xst ?_ | refine xar ?_ | refine xop ?_ | refine xlen ?_ | refine xld rfl ?_ | refine xsto rfl ?_ | refine xno ?_ | refine xt ?_ | refine xf ?_)
          refine xretm [0] rfl (.c (.t .nil) rfl rfl (partF_all rfl hsl4)) ?_
          rw [e0]
          exact ⟨_, rfl, .inl ⟨rfl, b4, rfl, rfl⟩⟩
end Go.Proofs.YtdalmiacjicgpaaGreatDoor

/- image.Decode: the plain law. -/
namespace Go.Proofs.YtdalmiacjicgpaaGreatDoor
open Go.W
theorem enc_len {m : Man} (hs : m.sum.length = 32) (h : m.ok = true) : (encM m).length = 40 := by
  unfold encM; rw [if_pos h]; simp [putB_length, hs]
theorem putB_small {l : List UInt8} {n : Nat} (h : l.length = n) : putB (numB l) n = l := by subst h; exact putB_numB l
theorem enc_of_parts {bs : List UInt8} {m : Man} (h40 : bs.length = 40) (h77 : numB (bs.take 1) = 77) (hp : m.part = (numB ((bs.drop 1).take 1) : Int)) (hv : m.ver = UInt32.ofNat (numB ((bs.drop 2).take 4)))
    (hz : m.size = (numB ((bs.drop 6).take 2) : Int)) (hsum : m.sum = (bs.drop 8).take 32) (hok : m.ok = true) : encM m = bs := by
  have l1 : (bs.take 1).length = 1 := by rw [List.length_take]; omega
  have l2 : ((bs.drop 1).take 1).length = 1 := by rw [List.length_take, List.length_drop]; omega
  have l3 : ((bs.drop 2).take 4).length = 4 := by rw [List.length_take, List.length_drop]; omega
  have l4 : ((bs.drop 6).take 2).length = 2 := by rw [List.length_take, List.length_drop]; omega
  have e0 : [77] = bs.take 1 := by
    have := putB_small l1
    rw [h77] at this
    rw [← this]; rfl
  have hvl : numB ((bs.drop 2).take 4) < 4294967296 := by have := numB_lt ((bs.drop 2).take 4); rw [l3] at this; exact this
  have ev : (UInt32.ofNat (numB ((bs.drop 2).take 4))).toNat = numB ((bs.drop 2).take 4) := by rw [UInt32.toNat_ofNat', Nat.mod_eq_of_lt hvl]
  unfold encM
  rw [if_pos hok, hp, hv, hz, hsum, Int.toNat_natCast, Int.toNat_natCast, ev, putB_small l2, putB_small l3, putB_small l4, e0]
  have e1 : bs.drop 8 = (bs.drop 8).take 32 := by rw [List.take_of_length_le (by rw [List.length_drop]; omega)]
  rw [← e1]
  have t1 : (bs.drop 6).take 2 ++ bs.drop 8 = bs.drop 6 := by
    have := List.take_append_drop 2 (bs.drop 6); rwa [List.drop_drop] at this
  have t2 : (bs.drop 2).take 4 ++ bs.drop 6 = bs.drop 2 := by
    have := List.take_append_drop 4 (bs.drop 2); rwa [List.drop_drop] at this
  have t3 : (bs.drop 1).take 1 ++ bs.drop 2 = bs.drop 1 := by
    have := List.take_append_drop 1 (bs.drop 1); rwa [List.drop_drop] at this
  rw [List.append_assoc, List.append_assoc, List.append_assoc, t1, t2, t3, List.take_append_drop]
theorem enc_parts {m : Man} (hs : m.sum.length = 32) (hok : m.ok = true) : numB ((encM m).take 1) = 77 ∧ (numB (((encM m).drop 1).take 1) : Int) = m.part ∧ numB (((encM m).drop 2).take 4) = m.ver.toNat ∧
    (numB (((encM m).drop 6).take 2) : Int) = m.size ∧ ((encM m).drop 8).take 32 = m.sum := by
  have hb : 0 ≤ m.part ∧ m.part < 8 ∧ 4 ≤ m.size ∧ m.size ≤ 512 := by unfold Man.ok at hok; rw [decide_eq_true_eq] at hok; omega
  have hv := m.ver.toNat_lt
  obtain ⟨p, hp⟩ : ∃ x, putB m.part.toNat 1 = x := ⟨_, rfl⟩
  obtain ⟨v, hv'⟩ : ∃ x, putB m.ver.toNat 4 = x := ⟨_, rfl⟩
  obtain ⟨z, hz⟩ : ∃ x, putB m.size.toNat 2 = x := ⟨_, rfl⟩
  have lp : p.length = 1 := by rw [← hp, putB_length]
  have lv : v.length = 4 := by rw [← hv', putB_length]
  have lz : z.length = 2 := by rw [← hz, putB_length]
  have e : encM m = [77] ++ (p ++ (v ++ (z ++ m.sum))) := by unfold encM; rw [if_pos hok, hp, hv', hz]; simp
  have n1 : numB p = m.part.toNat := by rw [← hp, numB_putB, Nat.mod_eq_of_lt (by omega)]
  have n2 : numB v = m.ver.toNat := by rw [← hv', numB_putB, Nat.mod_eq_of_lt (by omega)]
  have n3 : numB z = m.size.toNat := by rw [← hz, numB_putB, Nat.mod_eq_of_lt (by omega)]
  have d1 : (encM m).drop 1 = p ++ (v ++ (z ++ m.sum)) := by rw [e]; rfl
  have d2 : (encM m).drop 2 = v ++ (z ++ m.sum) := by
    rw [show (2 : Nat) = 1 + 1 from rfl, ← List.drop_drop, d1, List.drop_append_of_le_length (by omega), List.drop_eq_nil_of_le (by omega)]; rfl
  have d6 : (encM m).drop 6 = z ++ m.sum := by
    rw [show (6 : Nat) = 2 + 4 from rfl, ← List.drop_drop, d2, List.drop_append_of_le_length (by omega), List.drop_eq_nil_of_le (by omega)]; rfl
  have d8 : (encM m).drop 8 = m.sum := by
    rw [show (8 : Nat) = 6 + 2 from rfl, ← List.drop_drop, d6, List.drop_append_of_le_length (by omega), List.drop_eq_nil_of_le (by omega)]; rfl
  refine ⟨by rw [e]; rfl, ?_, ?_, ?_, ?_⟩
  · rw [d1, List.take_append_of_le_length (by omega), List.take_of_length_le (by omega), n1]; omega
  · rw [d2, List.take_append_of_le_length (by omega), List.take_of_length_le (by omega), n2]
  · rw [d6, List.take_append_of_le_length (by omega), List.take_of_length_le (by omega), n3]; omega
  · rw [d8, List.take_of_length_le (by omega)]
end Go.Proofs.YtdalmiacjicgpaaGreatDoor
