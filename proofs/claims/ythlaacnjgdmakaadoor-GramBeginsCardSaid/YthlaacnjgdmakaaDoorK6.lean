/- Part of the proof: LCq, LSa, LSb, LSc, LSd, LSe, LIa -/
import Derived.Test.YthlaacnjgdmakaaDoorK5
import Derived.Test.YthlaacnjgdmakaaDoorK2
/- code: Encode and Decode. -/
namespace Go.Proofs.YthlaacnjgdmakaaDoor
open Go.W

def encI (l : List Ins) : List UInt8 := l.flatMap fun i => [i.op, i.a, i.b, i.c]
theorem encI_len (l : List Ins) : (encI l).length = l.length * 4 := by
  induction l with
  | nil => rfl
  | cons i l ih => simp only [encI, List.flatMap_cons, List.length_append, List.length_cons, List.length_nil] at *; omega
theorem bsV_encI (l : List Ins) : bsV (encI l) = inssV l := by
  induction l with
  | nil => rfl
  | cons i l ih => simp only [encI, inssV, List.flatMap_cons, bsV_append] at *; rw [ih]; rfl
/-- Bytes as instructions, four by four. -/
def listI : List UInt8 → List Ins
  | x :: y :: z :: w :: r => ⟨x, y, z, w⟩ :: listI r
  | _ => []
theorem listI_encI : ∀ l : List Ins, listI (encI l) = l
  | [] => rfl
  | i :: l => by
    show listI (i.op :: i.a :: i.b :: i.c :: encI l) = _
    rw [listI, listI_encI l]
theorem encI_listI : ∀ (bs : List UInt8), bs.length % 4 = 0 → encI (listI bs) = bs
  | [], _ => rfl
  | [_], h => by simp at h
  | [_, _], h => by simp at h
  | [_, _, _], h => by simp at h
  | x :: y :: z :: w :: r, h => by
    have := encI_listI r (by simp at h; omega)
    show x :: y :: z :: w :: encI (listI r) = _
    rw [this]
theorem listI_len {bs : List UInt8} (h : bs.length % 4 = 0) : (listI bs).length = bs.length / 4 := by
  have := congrArg List.length (encI_listI bs h)
  rw [encI_len] at this; omega
theorem listI_get {bs : List UInt8} (h : bs.length % 4 = 0) (k : Nat) (hk : k < (listI bs).length) (j : Nat) (hj : j < 4) : (bsV (bs.drop (4 * k)))[j]? = (insV (listI bs)[k])[j]? := by
  have e : bsV bs = inssV (listI bs) := by rw [← bsV_encI, encI_listI bs h]
  have := flat_get insV_len (listI bs) k j hk hj
  rw [← bsV_drop, e, List.getElem?_drop, ← this, Nat.mul_comm]; rfl

theorem encode_spec (a : Option Addr) (n cap : Nat) (l : List Ins) (hn : n = l.length) (hlen : n ≤ 1000000) : Fun Tryd.prog 27 [.slice a n cap] [slR 4 a n cap (inssV l)] []
    fun v H => ∃ a' cap', v = .slice a' (encI l).length cap' ∧ H = [sl 1 a' (encI l).length cap' (bsV (encI l))] := by
  subst hn
  refine xenter (p := pg) Tryd.call27 Tryd.func27 fun C => ?_
  have hr := RP.slR (RP.of C (X := slR 4 a l.length cap (inssV l)) (by simp))
  repeat (first | refine xst ?_ | refine xar ?_ | refine xop ?_ | refine xlen ?_ | refine xld rfl ?_ | refine xsto rfl ?_ | refine xno ?_ | refine xt ?_ | refine xf ?_)
  refine xmake 0 (4 * l.length) rfl rfl (by rw [Int.natCast_mul]; rfl) (Nat.zero_le _) (by omega) (by omega) fun b => ?_
  repeat (first | refine xst ?_ | refine xar ?_ | refine xop ?_ | refine xlen ?_ | refine xld rfl ?_ | refine xsto rfl ?_ | refine xno ?_ | refine xt ?_ | refine xf ?_)
  refine G.loop (σ := Nat × Option Addr × Nat) (fun s => [(3, .slice s.2.1 (encI (l.take s.1)).length s.2.2), (10, .slice a l.length cap), (11, .int .i64 (l.length : Int)), (12, .int .i64 (s.1 : Int))])
    (fun s => [sl 1 s.2.1 (encI (l.take s.1)).length s.2.2 (bsV (encI (l.take s.1)))]) (fun s => s.1 ≤ l.length) (fun s => l.length - s.1) (0, some ⟨b, 0, none⟩, 4 * l.length) (Nat.zero_le _) ⟨rfl, rfl, rfl, rfl, trivial⟩ (Ent.refl _) ?_
  rintro ⟨k, a', cap'⟩ hk
  show G C _ [(3, .slice a' (encI (l.take k)).length cap'), (10, .slice a l.length cap), (11, .int .i64 (l.length : Int)), (12, .int .i64 (k : Int))] [sl 1 a' (encI (l.take k)).length cap' (bsV (encI (l.take k)))]
  have hk : k ≤ l.length := hk
  repeat (first | refine xst ?_ | refine xar ?_ | refine xop ?_ | refine xlen ?_ | refine xld rfl ?_ | refine xsto rfl ?_ | refine xno ?_ | refine xt ?_ | refine xf ?_)
  refine xd (fun h3 => ?_) (fun h3 => ?_)
  · have hk' : k < l.length := by omega
    have hel : ((inssV l).drop (k * 4)).take 4 = insV l[k] := flat_elem insV_len l k hk'
    obtain ⟨b1, off, rfl, hsb⟩ := hr.some (by omega)
    repeat (first | refine xst ?_ | refine xar ?_ | refine xop ?_ | refine xlen ?_ | refine xld rfl ?_ | refine xsto rfl ?_ | refine xno ?_ | refine xt ?_ | refine xf ?_)
    refine xix ?_
    refine xldla rfl (k * 4) (insV l[k]) rfl hel (by rw [inssV_len]; show k * 4 + 4 ≤ _; omega) ?_
    repeat (first | refine xst ?_ | refine xar ?_ | refine xop ?_ | refine xlen ?_ | refine xld rfl ?_ | refine xsto rfl ?_ | refine xno ?_ | refine xt ?_ | refine xf ?_)
    refine xnew fun b2 => ?_
    repeat (first | refine xst ?_ | refine xar ?_ | refine xop ?_ | refine xlen ?_ | refine xld rfl ?_ | refine xsto rfl ?_ | refine xno ?_ | refine xt ?_ | refine xf ?_)
    refine xbsl fun b3 => ?_
    have hlen : (encI (l.take k)).length = k * 4 := by rw [encI_len, List.length_take, Nat.min_eq_left hk]
    refine xapp (bsV (encI (l.take k))) rfl (SrcOk.blk (ys := insV l[k]) rfl (by simp) (by simp [insV, bV, Value.oneCell'])) (by omega) fun a'' cap'' => ?_
    repeat (first | refine xst ?_ | refine xar ?_ | refine xop ?_ | refine xlen ?_ | refine xld rfl ?_ | refine xsto rfl ?_ | refine xno ?_ | refine xt ?_ | refine xf ?_)
    have e : encI (l.take (k + 1)) = encI (l.take k) ++ [l[k].op, l[k].a, l[k].b, l[k].c] := by
      rw [List.take_succ_eq_append_getElem hk']; simp only [encI, List.flatMap_append, List.flatMap_cons, List.flatMap_nil, List.append_nil]
    have e2 : (encI (l.take (k + 1))).length = (encI (l.take k)).length + 4 := by rw [e]; simp
    refine G.fin (k + 1, a'', cap'') ⟨?_, ?_⟩ ⟨?_, rfl, rfl, rfl, trivial⟩ ?_
    · show k + 1 ≤ _; omega
    · show l.length - (k + 1) < l.length - k; omega
    · show W.look _ 3 = some (.slice a'' (encI (l.take (k + 1))).length cap''); rw [e2]; rfl
    · show Ent _ [sl 1 a'' (encI (l.take (k + 1))).length cap'' (bsV (encI (l.take (k + 1))))]
      rw [e2, e, bsV_append, show bsV [l[k].op, l[k].a, l[k].b, l[k].c] = insV l[k] from rfl]; exact ent_pick
  · obtain rfl : k = l.length := by omega
    repeat (first | refine xst ?_ | refine xar ?_ | refine xop ?_ | refine xlen ?_ | refine xld rfl ?_ | refine xsto rfl ?_ | refine xno ?_ | refine xt ?_ | refine xf ?_)
    refine xretp [0] ?_
    rw [List.take_length]
    exact ⟨a', cap', rfl, rfl⟩

/-- What bytes decode to: the program, and the fault. -/
def decF (bs : List UInt8) : List (Int × Int) :=
  if bs.length % 4 ≠ 0 then [(2, ((bs.length / 4 : Nat) : Int))]
  else match ckF (listI bs) with
    | [] => []
    | (c, a) :: r => (c, 4 * a) :: (c, a) :: r
def decL (bs : List UInt8) : List Ins := if decF bs = [] then listI bs else []

theorem fill_flat {α : Type} {enc : α → List Value} {s : Nat} (he : ∀ x, (enc x).length = s) {l : List α} {z : List Value} (hz : z.length = s) {k : Nat} (hk : k < l.length) :
    ((l.take k).flatMap enc ++ zeros (l.length - k) z).take (k * s) ++ enc l[k] ++ ((l.take k).flatMap enc ++ zeros (l.length - k) z).drop (k * s + (enc l[k]).length) = (l.take (k + 1)).flatMap enc ++ zeros (l.length - (k + 1)) z := by
  have h1 : ((l.take k).flatMap enc).length = k * s := by rw [flat_length he, List.length_take, Nat.min_eq_left (by omega)]
  rw [List.take_append_of_le_length (by omega), List.take_of_length_le (by omega), List.drop_append, List.drop_eq_nil_of_le (by omega), h1, he, List.nil_append, List.take_succ_eq_append_getElem hk, List.flatMap_append]
  congr 1
  · simp
  · rw [show l.length - k = 1 + (l.length - (k + 1)) by omega, zeros_add, List.drop_append, List.drop_eq_nil_of_le, List.nil_append]
    · have : (zeros 1 z).length = s := by rw [zeros_length, hz, Nat.one_mul]
      rw [this, Nat.add_sub_cancel_left, Nat.sub_self, List.drop_zero]
    · rw [zeros_length, hz]; omega

theorem chain_one {l : List (Int × Int)} {v : Value} {w : World} {F : Foot} (h : (chain l v).holds w F) : oneC v = true := by
  cases l with
  | nil => have h : v = .nilIface := h; subst h; rfl
  | cons q l => obtain ⟨c, a⟩ := q; obtain ⟨b, u, F1, F2, ⟨h1, _⟩, _⟩ := h; subst h1; rfl

theorem ckGo_one (n : Nat) : ∀ (l : List Ins) (at_ : Nat), ckGo n at_ l = [] ∨ ∃ c x : Int, ckGo n at_ l = [(c, x)] ∧ (at_ : Int) ≤ x ∧ x < (at_ : Int) + l.length
  | [], _ => .inl rfl
  | i :: r, at_ => by
    unfold ckGo
    split
    · exact .inr ⟨3, at_, rfl, by omega, by simp; omega⟩
    · split
      · exact .inr ⟨4, at_, rfl, by omega, by simp; omega⟩
      · rcases ckGo_one n r (at_ + 1) with h | ⟨c, x, h, h1, h2⟩
        · exact .inl h
        · exact .inr ⟨c, x, h, by omega, by simp; omega⟩
theorem ckF_one (l : List Ins) : ckF l = [] ∨ ∃ c x : Int, ckF l = [(c, x)] ∧ 0 ≤ x ∧ x ≤ l.length := by
  unfold ckF
  split
  · exact .inr ⟨1, 0, rfl, by omega, by omega⟩
  · rcases ckGo_one l.length l 0 with h | ⟨c, x, h, h1, h2⟩
    · rw [h]
      simp only
      split
      · exact .inl rfl
      · exact .inr ⟨2, _, rfl, by omega, by omega⟩
    · rw [h]
      exact .inr ⟨c, x, rfl, by omega, by omega⟩

theorem decode_spec (a : Option Addr) (n cap : Nat) (bs : List UInt8) (hn : n = bs.length) (hlen : n ≤ 1000000) : Fun Tryd.prog 72 [.slice a n cap] [gErr, slR 1 a n cap (bsV bs)] []
    fun v H => ∃ a' cap' e, v = .tuple #[.slice a' (decL bs).length cap', e] ∧ oneC e = true ∧ H = [sl 4 a' (decL bs).length cap' (inssV (decL bs)), chain (decF bs) e] := by
  subst hn
  refine xenter (p := pg) Tryd.call72 Tryd.func72 fun C => ?_
  haveI := RP.of C (X := gErr) (by simp)
  have hr := RP.slR (RP.of C (X := slR 1 a bs.length cap (bsV bs)) (by simp))
  have hmod : ((bs.length : Int).tmod (Int.ofNat (3 + 1))) = ((bs.length % 4 : Nat) : Int) := rfl
  have hdiv : IntKind.i64.wrap ((bs.length : Int).tdiv (Int.ofNat (3 + 1))) = ((bs.length / 4 : Nat) : Int) := wrap_nat (n := bs.length / 4) (by omega)
  repeat (first | refine xst ?_ | refine xar ?_ | refine xop ?_ | refine xlen ?_ | refine xld rfl ?_ | refine xsto rfl ?_ | refine xno ?_ | refine xt ?_ | refine xf ?_)
  refine xd (fun h => ?_) (fun h => ?_)
  · rw [hmod] at h
    repeat (first | refine xst ?_ | refine xar ?_ | refine xop ?_ | refine xlen ?_ | refine xld rfl ?_ | refine xsto rfl ?_ | refine xno ?_ | refine xt ?_ | refine xf ?_)
    refine xE 14 (.int .i64 ((bs.length / 4 : Nat) : Int)) rfl (by rw [hdiv]) ?_
    refine xcall (new_spec 2 ((bs.length / 4 : Nat) : Int)) ?_
    rintro v H rfl
    refine G.app ?_
    refine G.fact (chain (newF 2 ((bs.length / 4 : Nat) : Int)) v) (P := oneC v = true) (fun w F h => chain_one h) fun h1 => ?_
    repeat (first | refine xst ?_ | refine xar ?_ | refine xop ?_ | refine xlen ?_ | refine xld rfl ?_ | refine xsto rfl ?_ | refine xno ?_ | refine xt ?_ | refine xf ?_)
    refine G.sln 4 ?_
    refine xretp [0, 0] ?_
    have e1 : decF bs = newF 2 ((bs.length / 4 : Nat) : Int) := by unfold decF; rw [if_pos (by omega)]; rfl
    have e2 : decL bs = [] := by unfold decL; rw [e1]; rfl
    rw [e1, e2]
    exact ⟨none, 0, v, rfl, h1, rfl⟩
  · rw [hmod] at h
    have h4 : bs.length % 4 = 0 := by omega
    have hll := listI_len h4
    repeat (first | refine xst ?_ | refine xar ?_ | refine xop ?_ | refine xlen ?_ | refine xld rfl ?_ | refine xsto rfl ?_ | refine xno ?_ | refine xt ?_ | refine xf ?_)
    refine xE 18 (.int .i64 ((bs.length / 4 : Nat) : Int)) rfl (by rw [hdiv]) ?_
    rw [← hll]
    refine xmake (listI bs).length (listI bs).length rfl rfl rfl (Nat.le_refl _) (by omega) (by omega) fun b => ?_
    repeat (first | refine xst ?_ | refine xar ?_ | refine xop ?_ | refine xlen ?_ | refine xld rfl ?_ | refine xsto rfl ?_ | refine xno ?_ | refine xt ?_ | refine xf ?_)
    refine G.loop (σ := Nat) (fun k => [(0, .slice a bs.length cap), (4, .slice (some ⟨b, 0, none⟩) (listI bs).length (listI bs).length), (21, .int .i64 ((listI bs).length : Int)), (22, .int .i64 (k : Int))])
      (fun k => [sl 4 (some ⟨b, 0, none⟩) (listI bs).length (listI bs).length (inssV ((listI bs).take k) ++ zeros ((listI bs).length - k) [.int .u8 0, .int .u8 0, .int .u8 0, .int .u8 0])]) (fun k => k ≤ (listI bs).length) (fun k => (listI bs).length - k) 0 (Nat.zero_le _) ⟨rfl, rfl, rfl, rfl, trivial⟩ (Ent.refl _) ?_
    intro k hk
    repeat (first | refine xst ?_ | refine xar ?_ | refine xop ?_ | refine xlen ?_ | refine xld rfl ?_ | refine xsto rfl ?_ | refine xno ?_ | refine xt ?_ | refine xf ?_)
    refine xd (fun h3 => ?_) (fun h3 => ?_)
    · have hk' : k < (listI bs).length := by omega
      repeat (first | refine xst ?_ | refine xar ?_ | refine xop ?_ | refine xlen ?_ | refine xld rfl ?_ | refine xsto rfl ?_ | refine xno ?_ | refine xt ?_ | refine xf ?_)
      refine xslice (4 * k) bs.length rfl (by rw [Int.natCast_mul]; rfl) rfl (by omega) hr.len.2 ?_
      obtain ⟨b1, off, pre, rest, he, hp, hb⟩ := (hr.subB (k := 4 * k) (m := bs.length) (by omega) (Nat.le_refl _)).blk (by omega)
      refine xE 28 (.slice (some ⟨b1, off, none⟩) (bs.length - 4 * k) (cap - 4 * k)) rfl (congrArg (fun z => Value.slice z (bs.length - 4 * k) (cap - 4 * k)) he) ?_
      repeat (first | refine xst ?_ | refine xar ?_ | refine xop ?_ | refine xlen ?_ | refine xld rfl ?_ | refine xsto rfl ?_ | refine xno ?_ | refine xt ?_ | refine xf ?_)
      subst hp
      have hq : ∀ j, j < 4 → (bsV ((bs.drop (4 * k)).take (bs.length - 4 * k)))[j]? = (insV (listI bs)[k])[j]? := by
        intro j hj
        rw [← listI_get h4 k hk' j hj, List.take_of_length_le (by simp)]
      have hq4 : ∀ j, j < 4 → j < bs.length - 4 * k := by intro j hj; omega
      refine xdraw ?_
      refine xdop 0 ?_
      refine xdop 1 ?_
      refine xdop 2 ?_
      refine xdix 3 ?_ (hk := hq4 0 (by omega))
      refine xdld 4 rfl rfl ?_ (hv := partF_mid (j := 0) (hq 0 (by omega)))
      refine xdop 5 ?_
      refine xdix 6 ?_ (hk := hq4 1 (by omega))
      refine xdld 7 rfl rfl ?_ (hv := partF_mid (j := 1) (hq 1 (by omega)))
      refine xdop 8 ?_
      refine xdix 9 ?_ (hk := hq4 2 (by omega))
      refine xdld 10 rfl rfl ?_ (hv := partF_mid (j := 2) (hq 2 (by omega)))
      refine xdop 11 ?_
      refine xdix 12 ?_ (hk := hq4 3 (by omega))
      refine xdld 13 rfl rfl ?_ (hv := partF_mid (j := 3) (hq 3 (by omega)))
      refine xdop 14 ?_
      refine xdix 15 ?_
      refine xdact 16 ?_
      refine xstl rfl (k * 4) (inssV ((listI bs).take (k + 1)) ++ zeros ((listI bs).length - (k + 1)) [.int .u8 0, .int .u8 0, .int .u8 0, .int .u8 0]) (fill_flat insV_len rfl hk') ?_ ?_
      · rw [List.length_append, flat_length insV_len, List.length_take, zeros_length]; show k * 4 + 4 ≤ _ + _ * 4; omega
      refine xst ?_
      refine xdend ?_
      repeat (first | refine xst ?_ | refine xar ?_ | refine xop ?_ | refine xlen ?_ | refine xld rfl ?_ | refine xsto rfl ?_ | refine xno ?_ | refine xt ?_ | refine xf ?_)
      exact G.fin (k + 1) ⟨by omega, by omega⟩ ⟨rfl, rfl, rfl, rfl, trivial⟩ ent_pick
    · obtain rfl : k = (listI bs).length := by omega
      rw [List.take_length, Nat.sub_self, show zeros 0 [.int .u8 0, .int .u8 0, .int .u8 0, .int .u8 0] = [] from rfl, List.append_nil]
      repeat (first | refine xst ?_ | refine xar ?_ | refine xop ?_ | refine xlen ?_ | refine xld rfl ?_ | refine xsto rfl ?_ | refine xno ?_ | refine xt ?_ | refine xf ?_)
      refine xcall (check_spec (some ⟨b, 0, none⟩) (listI bs).length (listI bs).length (listI bs) rfl (by omega)) ?_
      rintro v H rfl
      refine G.app ?_
      have e3 : decF bs = match ckF (listI bs) with | [] => [] | (c, a) :: r => (c, 4 * a) :: (c, a) :: r := by unfold decF; rw [if_neg (by omega)]
      have e4 : decL bs = if decF bs = [] then listI bs else [] := rfl
      cases hck : ckF (listI bs) with
      | nil =>
        refine G.fact (chain [] v) (P := v = .nilIface) (fun w F h => h) fun h => ?_
        subst h
        rw [hck] at e3
        simp only at e3
        rw [e3, if_pos rfl] at e4
        repeat (first | refine xst ?_ | refine xar ?_ | refine xop ?_ | refine xlen ?_ | refine xld rfl ?_ | refine xsto rfl ?_ | refine xno ?_ | refine xt ?_ | refine xf ?_)
        refine xretp [1, 0] ?_
        rw [e3, e4]
        exact ⟨_, _, _, rfl, rfl, rfl⟩
      | cons q r =>
        obtain ⟨c, x⟩ := q
        refine G.fact (chain ((c, x) :: r) v) (P := ∃ b : Nat, v = .iface 128 (.pointer (some ⟨b, 0, none⟩))) (fun w F h => by obtain ⟨b, u, F1, F2, ⟨h1, h2⟩, _⟩ := h; exact ⟨b, h1⟩) fun h => ?_
        obtain ⟨b2, rfl⟩ := h
        repeat (first | refine xst ?_ | refine xar ?_ | refine xop ?_ | refine xlen ?_ | refine xld rfl ?_ | refine xsto rfl ?_ | refine xno ?_ | refine xt ?_ | refine xf ?_)
        have h1 : r = [] ∧ 0 ≤ x ∧ x ≤ (listI bs).length := by
          rcases ckF_one (listI bs) with h | ⟨c', x', h, h1, h2⟩
          · rw [h] at hck; cases hck
          · rw [h] at hck; cases hck; exact ⟨rfl, h1, h2⟩
        obtain ⟨rfl, hx1, hx2⟩ := h1
        refine xcall (path_spec [(c, x)] (.iface 128 (.pointer (some ⟨b2, 0, none⟩))) (by simp)) ?_
        rintro v H ⟨a', cap', rfl, rfl⟩
        refine G.app ?_
        refine xslf 0 rfl fun _ hc hs => ?_
        obtain ⟨b3, off, rfl⟩ := hs (by simp at hc; omega)
        repeat (first | refine xst ?_ | refine xar ?_ | refine xop ?_ | refine xlen ?_ | refine xld rfl ?_ | refine xsto rfl ?_ | refine xno ?_ | refine xt ?_ | refine xf ?_)
        refine xix (hk := by show 0 < 1; omega) ?_
        refine xldl rfl 0 (v := .int .i64 x) rfl ?_
        repeat (first | refine xst ?_ | refine xar ?_ | refine xop ?_ | refine xlen ?_ | refine xld rfl ?_ | refine xsto rfl ?_ | refine xno ?_ | refine xt ?_ | refine xf ?_)
        refine xcall (in_spec [(c, x)] (.iface 128 (.pointer (some ⟨b2, 0, none⟩))) (4 * x) rfl) ?_
        rintro v H rfl
        refine G.app ?_
        refine G.fact (chain (inF [(c, x)] (4 * x)) v) (P := oneC v = true) (fun w F h => chain_one h) fun h1 => ?_
        repeat (first | refine xst ?_ | refine xar ?_ | refine xop ?_ | refine xlen ?_ | refine xld rfl ?_ | refine xsto rfl ?_ | refine xno ?_ | refine xt ?_ | refine xf ?_)
        refine G.sln 4 ?_
        refine xretp [0, 0] ?_
        have e5 : decF bs = inF [(c, x)] (4 * x) := by rw [e3, hck]; rfl
        have e6 : decL bs = [] := by rw [e4, e5]; rfl
        rw [e5, e6]
        exact ⟨none, 0, v, rfl, h1, rfl⟩
end Go.Proofs.YthlaacnjgdmakaaDoor

/- sha: rotate, expand. -/
namespace Go.Proofs.YthlaacnjgdmakaaDoor
open Go.W

theorem rotL_spec (x : UInt32) (n : Nat) (h1 : 1 ≤ n) (h2 : n ≤ 31) : Fun Tryd.prog 115 [wV x, .int .i64 (-(n : Int))] [] [] fun v H => v = wV (rotr x n) ∧ H = [] := by
  have e8 : IntKind.u64.wrap ((BitVec.ofInt IntKind.u64.bits (IntKind.u64.wrap (-(n : Int))) &&& BitVec.ofInt IntKind.u64.bits 31).toNat : Int) = ((32 - n : Nat) : Int) := by
    have : n = 1 ∨ n = 2 ∨ n = 3 ∨ n = 4 ∨ n = 5 ∨ n = 6 ∨ n = 7 ∨ n = 8 ∨ n = 9 ∨ n = 10 ∨ n = 11 ∨ n = 12 ∨ n = 13 ∨ n = 14 ∨ n = 15 ∨ n = 16 ∨ n = 17 ∨ n = 18 ∨ n = 19 ∨ n = 20 ∨ n = 21 ∨ n = 22 ∨ n = 23 ∨ n = 24 ∨ n = 25 ∨ n = 26 ∨ n = 27 ∨ n = 28 ∨ n = 29 ∨ n = 30 ∨ n = 31 := by omega
    rcases this with rfl|rfl|rfl|rfl|rfl|rfl|rfl|rfl|rfl|rfl|rfl|rfl|rfl|rfl|rfl|rfl|rfl|rfl|rfl|rfl|rfl|rfl|rfl|rfl|rfl|rfl|rfl|rfl|rfl|rfl|rfl <;> rfl
  have e14 : IntKind.u64.wrap (32 - ((32 - n : Nat) : Int)) = ((n : Nat) : Int) := by
    rw [show (32 - ((32 - n : Nat) : Int)) = ((n : Nat) : Int) by omega]; exact u64_wrap (by omega)
  refine xenter (p := pg) Tryd.call115 Tryd.func115 fun C => ?_
  repeat (refine xnot 8 ?_; first | refine xst ?_ | refine xar ?_ | refine xop ?_ | refine xlen ?_ | refine xld rfl ?_ | refine xsto rfl ?_ | refine xno ?_ | refine xt ?_ | refine xf ?_)
  refine xE 8 (.int .u64 ((32 - n : Nat) : Int)) rfl (congrArg (Value.int .u64) e8) ?_
  repeat (refine xnot 11 ?_; first | refine xst ?_ | refine xar ?_ | refine xop ?_ | refine xlen ?_ | refine xld rfl ?_ | refine xsto rfl ?_ | refine xno ?_ | refine xt ?_ | refine xf ?_)
  refine xE 11 (wV (wShl x (32 - n))) rfl (congrArg (Value.int .u32) (w_shl x (32 - n) (by omega))) ?_
  repeat (refine xnot 14 ?_; first | refine xst ?_ | refine xar ?_ | refine xop ?_ | refine xlen ?_ | refine xld rfl ?_ | refine xsto rfl ?_ | refine xno ?_ | refine xt ?_ | refine xf ?_)
  refine xE 14 (.int .u64 (n : Int)) rfl (congrArg (Value.int .u64) e14) ?_
  repeat (refine xnot 15 ?_; first | refine xst ?_ | refine xar ?_ | refine xop ?_ | refine xlen ?_ | refine xld rfl ?_ | refine xsto rfl ?_ | refine xno ?_ | refine xt ?_ | refine xf ?_)
  refine xE 15 (wV (wShr x n)) rfl (congrArg (Value.int .u32) (w_shr x n (by omega))) ?_
  repeat (refine xnot 16 ?_; first | refine xst ?_ | refine xar ?_ | refine xop ?_ | refine xlen ?_ | refine xld rfl ?_ | refine xsto rfl ?_ | refine xno ?_ | refine xt ?_ | refine xf ?_)
  refine xE 16 (wV (rotr x n)) rfl (congrArg (Value.int .u32) (w_or _ _)) ?_
  repeat (first | refine xst ?_ | refine xar ?_ | refine xop ?_ | refine xlen ?_ | refine xld rfl ?_ | refine xsto rfl ?_ | refine xno ?_ | refine xt ?_ | refine xf ?_)
  exact xret [] ⟨rfl, rfl⟩

theorem rotate_spec (x : UInt32) (n : Nat) (h1 : 1 ≤ n) (h2 : n ≤ 31) : Fun Tryd.prog 107 [wV x, .int .i64 (n : Int)] [] [] fun v H => v = wV (rotr x n) ∧ H = [] := by
  refine xenter (p := pg) Tryd.call107 Tryd.func107 fun C => ?_
  repeat (refine xnot 7 ?_; first | refine xst ?_ | refine xar ?_ | refine xop ?_ | refine xlen ?_ | refine xld rfl ?_ | refine xsto rfl ?_ | refine xno ?_ | refine xt ?_ | refine xf ?_)
  refine xE 7 (.int .i64 (-(n : Int))) rfl (congrArg (Value.int .i64) (by rw [Int.zero_sub]; exact wrap_in (k := .i64) ⟨by omega, by omega⟩)) ?_
  refine xcall (rotL_spec x n h1 h2) ?_
  rintro v H ⟨rfl, rfl⟩
  refine G.app ?_
  repeat (first | refine xst ?_ | refine xar ?_ | refine xop ?_ | refine xlen ?_ | refine xld rfl ?_ | refine xsto rfl ?_ | refine xno ?_ | refine xt ?_ | refine xf ?_)
  exact xret [] ⟨rfl, rfl⟩
end Go.Proofs.YthlaacnjgdmakaaDoor

/- sha: expand. -/
namespace Go.Proofs.YthlaacnjgdmakaaDoor
open Go.W

def w8 (x : UInt8) : UInt32 := UInt32.ofNat x.toNat
def wOf (a b c d : UInt8) : UInt32 := wShl (w8 a) 24 ||| wShl (w8 b) 16 ||| wShl (w8 c) 8 ||| w8 d
def gB (bl : List UInt8) (i : Nat) : UInt8 := bl.getD i 0
def gW (l : List UInt32) (i : Nat) : UInt32 := l.getD i 0
def sg0 (x : UInt32) : UInt32 := rotr x 7 ^^^ rotr x 18 ^^^ wShr x 3
def sg1 (y : UInt32) : UInt32 := rotr y 17 ^^^ rotr y 19 ^^^ wShr y 10
def wNext (bl : List UInt8) (l : List UInt32) (t : Nat) : UInt32 :=
  if t < 16 then wOf (gB bl (4 * t)) (gB bl (4 * t + 1)) (gB bl (4 * t + 2)) (gB bl (4 * t + 3))
  else sg1 (gW l (t - 2)) + gW l (t - 7) + sg0 (gW l (t - 15)) + gW l (t - 16)
def wL (bl : List UInt8) : Nat → List UInt32
  | 0 => []
  | t + 1 => wL bl t ++ [wNext bl (wL bl t) t]
theorem wL_len (bl : List UInt8) : ∀ t, (wL bl t).length = t
  | 0 => rfl
  | t + 1 => by simp [wL, wL_len bl t]
def z32 : List Value := [.int .u32 0]
def wRow (bl : List UInt8) (t : Nat) : List Value := wsV (wL bl t) ++ zeros (64 - t) z32
theorem wRow_len (bl : List UInt8) (t : Nat) (h : t ≤ 64) : (wRow bl t).length = 64 := by
  unfold wRow; rw [List.length_append, wsV_length, wL_len, zeros_length]; simp [z32]; omega
theorem wRow_get (bl : List UInt8) (t i : Nat) (h : i < t) : (wRow bl t)[i]? = some (wV (gW (wL bl t) i)) := by
  unfold wRow gW
  have hl : i < (wL bl t).length := by rw [wL_len]; exact h
  rw [List.getElem?_append_left (by rw [wsV_length]; exact hl), wsV_get hl, List.getD_eq_getElem?_getD, List.getElem?_eq_getElem hl]; rfl
theorem wRow_set (bl : List UInt8) (t : Nat) (h : t < 64) : (wRow bl t).set t (wV (wNext bl (wL bl t) t)) = wRow bl (t + 1) := by
  unfold wRow z32
  rw [fill_set (by rw [wsV_length, wL_len]) h, wL, wsV_append]; rfl
theorem gB_get {bl : List UInt8} {i : Nat} (h : i < bl.length) : (bsV bl)[i]? = some (bV (gB bl i)) := by
  rw [bsV_get h]; unfold gB; rw [List.getD_eq_getElem?_getD, List.getElem?_eq_getElem h]; rfl

set_option maxHeartbeats 600000 in
theorem expand_spec (bl : List UInt8) (hb : bl.length = 64) : Fun Tryd.prog 106 [.agg (bsV bl).toArray] [] [] fun v H => v = .agg (wsV (wL bl 64)).toArray ∧ H = [] := by
  refine xenter (p := pg) Tryd.call106 Tryd.func106 fun C => ?_
  repeat (first | refine xst ?_ | refine xar ?_ | refine xop ?_ | refine xlen ?_ | refine xld rfl ?_ | refine xsto rfl ?_ | refine xno ?_ | refine xt ?_ | refine xf ?_)
  refine xnew fun b1 => ?_
  refine xnew fun b2 => ?_
  repeat (first | refine xst ?_ | refine xar ?_ | refine xop ?_ | refine xlen ?_ | refine xld rfl ?_ | refine xsto rfl ?_ | refine xno ?_ | refine xt ?_ | refine xf ?_)
  refine xnew fun b3 => ?_
  refine xrep 0 (wRow bl 0) rfl rfl ?_
  repeat (first | refine xst ?_ | refine xar ?_ | refine xop ?_ | refine xlen ?_ | refine xld rfl ?_ | refine xsto rfl ?_ | refine xno ?_ | refine xt ?_ | refine xf ?_)
  refine G.loop (σ := Nat) (fun t => [(1, .pointer (some ⟨b1, 0, none⟩)), (2, .pointer (some ⟨b2, 0, none⟩)), (3, .pointer (some ⟨b3, 0, none⟩)), (11, .int .i64 (t : Int))])
    (fun t => [pts b3 (wRow bl t), pts b2 (zeros 64 z32), pts b1 (bsV bl)]) (fun t => t ≤ 16) (fun t => 16 - t) 0 (Nat.zero_le _) ⟨rfl, rfl, rfl, rfl, trivial⟩ (Ent.refl _) ?_
  intro t ht
  repeat (first | refine xst ?_ | refine xar ?_ | refine xop ?_ | refine xlen ?_ | refine xld rfl ?_ | refine xsto rfl ?_ | refine xno ?_ | refine xt ?_ | refine xf ?_)
  refine xd (fun h3 => ?_) (fun h3 => ?_)
  · have ht' : t < 16 := by omega
    repeat (first | refine xst ?_ | refine xar ?_ | refine xop ?_ | refine xlen ?_ | refine xld rfl ?_ | refine xsto rfl ?_ | refine xno ?_ | refine xt ?_ | refine xf ?_)
    refine xslice (4 * t) 64 rfl (by rw [Int.natCast_mul]; rfl) rfl (by omega) (Nat.le_refl _) ?_
    refine xE 16 (.slice (some ⟨b1, 4 * t, none⟩) (64 - 4 * t) (64 - 4 * t)) rfl (congrArg (fun z => Value.slice z (64 - 4 * t) (64 - 4 * t)) ((subA_lt (by omega)).trans (by rw [Nat.zero_add]; exact congrArg (fun o => some (Addr.mk b1 o none)) (Nat.mul_one _)))) ?_
    repeat (first | refine xst ?_ | refine xar ?_ | refine xop ?_ | refine xlen ?_ | refine xld rfl ?_ | refine xsto rfl ?_ | refine xno ?_ | refine xt ?_ | refine xf ?_)
    have hq : ∀ j, j < 4 → j < 64 - 4 * t := by intro j hj; omega
    have hg : ∀ j, j < 4 → partF (⟨.int .u8, 1, 1, [.int .u8 0]⟩ : TI) (bsV bl) (4 * t + j) = some (bV (gB bl (4 * t + j))) := fun j hj => partF_one rfl (gB_get (by omega))
    refine xdraw ?_
    refine xdop 0 ?_
    refine xdop 1 ?_
    refine xdix 2 ?_ (hk := hq 0 (by omega))
    refine xdld 3 rfl rfl ?_ (hv := hg 0 (by omega))
    (first | refine xdar 4 ?_ | refine xdop 4 ?_)
    refine xE 21 (wV (w8 (gB bl (4 * t + 0)))) rfl (congrArg (Value.int .u32) (w_wrap _)) ?_
    refine xdop 5 ?_
    refine xE 22 (wV (wShl (w8 (gB bl (4 * t + 0))) 24)) rfl (congrArg (Value.int .u32) (w_shl _ 24 (by omega))) ?_
    refine xdop 6 ?_
    refine xdix 7 ?_ (hk := hq 1 (by omega))
    refine xdld 8 rfl rfl ?_ (hv := hg 1 (by omega))
    (first | refine xdar 9 ?_ | refine xdop 9 ?_)
    refine xE 26 (wV (w8 (gB bl (4 * t + 1)))) rfl (congrArg (Value.int .u32) (w_wrap _)) ?_
    refine xdop 10 ?_
    refine xE 27 (wV (wShl (w8 (gB bl (4 * t + 1))) 16)) rfl (congrArg (Value.int .u32) (w_shl _ 16 (by omega))) ?_
    refine xdop 11 ?_
    refine xE 28 (wV ((wShl (w8 (gB bl (4 * t + 0))) 24) ||| (wShl (w8 (gB bl (4 * t + 1))) 16))) rfl (congrArg (Value.int .u32) (w_or _ _)) ?_
    refine xdop 12 ?_
    refine xdix 13 ?_ (hk := hq 2 (by omega))
    refine xdld 14 rfl rfl ?_ (hv := hg 2 (by omega))
    (first | refine xdar 15 ?_ | refine xdop 15 ?_)
    refine xE 32 (wV (w8 (gB bl (4 * t + 2)))) rfl (congrArg (Value.int .u32) (w_wrap _)) ?_
    refine xdop 16 ?_
    refine xE 33 (wV (wShl (w8 (gB bl (4 * t + 2))) 8)) rfl (congrArg (Value.int .u32) (w_shl _ 8 (by omega))) ?_
    refine xdop 17 ?_
    refine xE 34 (wV ((wShl (w8 (gB bl (4 * t + 0))) 24) ||| (wShl (w8 (gB bl (4 * t + 1))) 16) ||| (wShl (w8 (gB bl (4 * t + 2))) 8))) rfl (congrArg (Value.int .u32) (w_or _ _)) ?_
    refine xdop 18 ?_
    refine xdix 19 ?_ (hk := hq 3 (by omega))
    refine xdld 20 rfl rfl ?_ (hv := hg 3 (by omega))
    (first | refine xdar 21 ?_ | refine xdop 21 ?_)
    refine xE 38 (wV (w8 (gB bl (4 * t + 3)))) rfl (congrArg (Value.int .u32) (w_wrap _)) ?_
    refine xdop 22 ?_
    refine xE 39 (wV (wNext bl (wL bl t) t)) rfl ((congrArg (Value.int .u32) (w_or ((wShl (w8 (gB bl (4 * t + 0))) 24) ||| (wShl (w8 (gB bl (4 * t + 1))) 16) ||| (wShl (w8 (gB bl (4 * t + 2))) 8)) (w8 (gB bl (4 * t + 3))))).trans (by unfold wNext; rw [if_pos ht']; rfl)) ?_
    refine xdix 23 ?_ (hk := by omega)
    refine xEp 40 t rfl (Nat.zero_add _) ?_
    refine xdact 24 ?_
    refine xsto rfl ?_ (hm := (putF_one (by rw [wRow_len bl t (by omega)]; omega)).trans (congrArg some (wRow_set bl t (by omega))))
    refine xst ?_
    refine xdend ?_
    repeat (first | refine xst ?_ | refine xar ?_ | refine xop ?_ | refine xlen ?_ | refine xld rfl ?_ | refine xsto rfl ?_ | refine xno ?_ | refine xt ?_ | refine xf ?_)
    exact G.fin (t + 1) ⟨by omega, by omega⟩ ⟨rfl, rfl, rfl, rfl, trivial⟩ ent_pick
  · obtain rfl : t = 16 := by omega
    repeat (first | refine xst ?_ | refine xar ?_ | refine xop ?_ | refine xlen ?_ | refine xld rfl ?_ | refine xsto rfl ?_ | refine xno ?_ | refine xt ?_ | refine xf ?_)
    refine xrep 0 (wRow bl 16) rfl rfl ?_
    refine G.loop (σ := Nat) (fun t => [(2, .pointer (some ⟨b2, 0, none⟩)), (3, .pointer (some ⟨b3, 0, none⟩)), (6, .int .i64 (t : Int))])
      (fun t => [pts b3 (wRow bl t), pts b2 (zeros 64 z32), pts b1 (bsV bl)]) (fun t => 16 ≤ t ∧ t ≤ 64) (fun t => 64 - t) 16 ⟨by omega, by omega⟩ ⟨rfl, rfl, rfl, trivial⟩ (Ent.refl _) ?_
    rintro t ⟨ht, ht2⟩
    repeat (first | refine xst ?_ | refine xar ?_ | refine xop ?_ | refine xlen ?_ | refine xld rfl ?_ | refine xsto rfl ?_ | refine xno ?_ | refine xt ?_ | refine xf ?_)
    refine xd (fun h4 => ?_) (fun h4 => ?_)
    · have ht' : t < 64 := by omega
      have hget : ∀ j, 1 ≤ j → j ≤ 16 → partF (⟨.int .u32, 1, 4, [.int .u32 0]⟩ : TI) (wRow bl t) (t - j) = some (wV (gW (wL bl t) (t - j))) := fun j h1 h2 => partF_one rfl (wRow_get bl t (t - j) (by omega))
      have hsub : ∀ j : Nat, j ≤ 16 → ((t : Int) - (j : Int)) = ((t - j : Nat) : Int) := fun j hj => by omega
      repeat (first | refine xst ?_ | refine xar ?_ | refine xop ?_ | refine xlen ?_ | refine xld rfl ?_ | refine xsto rfl ?_ | refine xno ?_ | refine xt ?_ | refine xf ?_)
      refine xdraw ?_
      refine xdop 0 ?_
      (first | refine xdar 1 ?_ | refine xdop 1 ?_)
      refine xE 47 (.int .i64 ((t - 15 : Nat) : Int)) rfl (congrArg (Value.int .i64) (hsub 15 (by omega))) ?_
      refine xdix 2 ?_ (hk := by omega)
      refine xEp 48 (t - 15) rfl (Nat.zero_add _) ?_
      refine xdld 3 rfl rfl ?_ (hv := hget 15 (by omega) (by omega))
      refine xdop 4 ?_
      (first | refine xdar 5 ?_ | refine xdop 5 ?_)
      refine xE 51 (.int .i64 ((t - 2 : Nat) : Int)) rfl (congrArg (Value.int .i64) (hsub 2 (by omega))) ?_
      refine xdix 6 ?_ (hk := by omega)
      refine xEp 52 (t - 2) rfl (Nat.zero_add _) ?_
      refine xdld 7 rfl rfl ?_ (hv := hget 2 (by omega) (by omega))
      refine xdop 8 ?_
      refine xdop 9 ?_
      refine xdend ?_
      repeat (first | refine xst ?_ | refine xar ?_ | refine xop ?_ | refine xlen ?_ | refine xld rfl ?_ | refine xsto rfl ?_ | refine xno ?_ | refine xt ?_ | refine xf ?_)
      refine xcall (rotate_spec (gW (wL bl t) (t - 15)) 7 (by omega) (by omega)) ?_
      rintro v H ⟨rfl, rfl⟩
      refine G.app ?_
      repeat (first | refine xst ?_ | refine xar ?_ | refine xop ?_ | refine xlen ?_ | refine xld rfl ?_ | refine xsto rfl ?_ | refine xno ?_ | refine xt ?_ | refine xf ?_)
      refine xcall (rotate_spec (gW (wL bl t) (t - 15)) 18 (by omega) (by omega)) ?_
      rintro v H ⟨rfl, rfl⟩
      refine G.app ?_
      repeat (refine xnot 9 ?_; first | refine xst ?_ | refine xar ?_ | refine xop ?_ | refine xlen ?_ | refine xld rfl ?_ | refine xsto rfl ?_ | refine xno ?_ | refine xt ?_ | refine xf ?_)
      refine xE 9 (wV (sg0 (gW (wL bl t) (t - 15)))) rfl (wE (by simp only [w_xor, w_shr _ 3 (by omega)]; rfl)) ?_
      repeat (first | refine xst ?_ | refine xar ?_ | refine xop ?_ | refine xlen ?_ | refine xld rfl ?_ | refine xsto rfl ?_ | refine xno ?_ | refine xt ?_ | refine xf ?_)
      refine xcall (rotate_spec (gW (wL bl t) (t - 2)) 17 (by omega) (by omega)) ?_
      rintro v H ⟨rfl, rfl⟩
      refine G.app ?_
      repeat (first | refine xst ?_ | refine xar ?_ | refine xop ?_ | refine xlen ?_ | refine xld rfl ?_ | refine xsto rfl ?_ | refine xno ?_ | refine xt ?_ | refine xf ?_)
      refine xcall (rotate_spec (gW (wL bl t) (t - 2)) 19 (by omega) (by omega)) ?_
      rintro v H ⟨rfl, rfl⟩
      refine G.app ?_
      repeat (refine xnot 10 ?_; first | refine xst ?_ | refine xar ?_ | refine xop ?_ | refine xlen ?_ | refine xld rfl ?_ | refine xsto rfl ?_ | refine xno ?_ | refine xt ?_ | refine xf ?_)
      refine xE 10 (wV (sg1 (gW (wL bl t) (t - 2)))) rfl (wE (by simp only [w_xor, w_shr _ 10 (by omega)]; rfl)) ?_
      repeat (first | refine xst ?_ | refine xar ?_ | refine xop ?_ | refine xlen ?_ | refine xld rfl ?_ | refine xsto rfl ?_ | refine xno ?_ | refine xt ?_ | refine xf ?_)
      refine xdraw ?_
      refine xdop 0 ?_
      refine xdop 1 ?_
      refine xdop 2 ?_
      (first | refine xdar 3 ?_ | refine xdop 3 ?_)
      refine xE 73 (.int .i64 ((t - 7 : Nat) : Int)) rfl (congrArg (Value.int .i64) (hsub 7 (by omega))) ?_
      refine xdix 4 ?_ (hk := by omega)
      refine xEp 74 (t - 7) rfl (Nat.zero_add _) ?_
      refine xdld 5 rfl rfl ?_ (hv := hget 7 (by omega) (by omega))
      (first | refine xdar 6 ?_ | refine xdop 6 ?_)
      refine xdop 7 ?_
      (first | refine xdar 8 ?_ | refine xdop 8 ?_)
      refine xdop 9 ?_
      (first | refine xdar 10 ?_ | refine xdop 10 ?_)
      refine xE 80 (.int .i64 ((t - 16 : Nat) : Int)) rfl (congrArg (Value.int .i64) (hsub 16 (by omega))) ?_
      refine xdix 11 ?_ (hk := by omega)
      refine xEp 81 (t - 16) rfl (Nat.zero_add _) ?_
      refine xdld 12 rfl rfl ?_ (hv := hget 16 (by omega) (by omega))
      (first | refine xdar 13 ?_ | refine xdop 13 ?_)
      refine xE 83 (wV (wNext bl (wL bl t) t)) rfl (wE (by unfold wNext; rw [if_neg (by omega)]; simp only [w_add])) ?_
      refine xdix 14 ?_ (hk := by omega)
      refine xEp 84 t rfl (Nat.zero_add _) ?_
      refine xdact 15 ?_
      refine xsto rfl ?_ (hm := (putF_one (by rw [wRow_len bl t (by omega)]; omega)).trans (congrArg some (wRow_set bl t (by omega))))
      refine xst ?_
      refine xdend ?_
      repeat (first | refine xst ?_ | refine xar ?_ | refine xop ?_ | refine xlen ?_ | refine xld rfl ?_ | refine xsto rfl ?_ | refine xno ?_ | refine xt ?_ | refine xf ?_)
      exact G.fin (t + 1) ⟨by omega, by omega⟩ ⟨rfl, rfl, rfl, trivial⟩ ent_pick
    · obtain rfl : t = 64 := by omega
      obtain ⟨ws, hws⟩ : ∃ ws, wL bl 64 = ws := ⟨_, rfl⟩
      have hwl : ws.length = 64 := by rw [← hws, wL_len]
      have e64 : wRow bl 64 = wsV ws := by unfold wRow; rw [hws]; simp [zeros, z32]
      refine xrep 0 (wsV ws) rfl e64 ?_
      refine xst ?_
      refine xst ?_
      refine xst ?_
      refine xld rfl ?_ (hv := partF_all rfl (by rw [wsV_length, hwl]; rfl))
      refine xsta (cs := wsV ws) rfl (by rw [wsV_length, hwl]; rfl) (wsV_one ws) (wsV ws) (by
        rw [wsV_length, hwl]; simp [zeros_length, z32]) (by rw [wsV_length, hwl, zeros_length]; exact Nat.le_refl _) ?_
      refine xst ?_
      refine xretm [] rfl (.c .nil rfl rfl (partF_all rfl (by rw [wsV_length, hwl]; rfl))) ?_
      rw [hws]
      exact ⟨rfl, rfl⟩
end Go.Proofs.YthlaacnjgdmakaaDoor

/- sha: process. -/
namespace Go.Proofs.YthlaacnjgdmakaaDoor
open Go.W

def kL : List UInt32 := [0x428a2f98, 0x71374491, 0xb5c0fbcf, 0xe9b5dba5, 0x3956c25b, 0x59f111f1, 0x923f82a4, 0xab1c5ed5,
0xd807aa98, 0x12835b01, 0x243185be, 0x550c7dc3, 0x72be5d74, 0x80deb1fe, 0x9bdc06a7, 0xc19bf174,
0xe49b69c1, 0xefbe4786, 0x0fc19dc6, 0x240ca1cc, 0x2de92c6f, 0x4a7484aa, 0x5cb0a9dc, 0x76f988da,
0x983e5152, 0xa831c66d, 0xb00327c8, 0xbf597fc7, 0xc6e00bf3, 0xd5a79147, 0x06ca6351, 0x14292967,
0x27b70a85, 0x2e1b2138, 0x4d2c6dfc, 0x53380d13, 0x650a7354, 0x766a0abb, 0x81c2c92e, 0x92722c85,
0xa2bfe8a1, 0xa81a664b, 0xc24b8b70, 0xc76c51a3, 0xd192e819, 0xd6990624, 0xf40e3585, 0x106aa070,
0x19a4c116, 0x1e376c08, 0x2748774c, 0x34b0bcb5, 0x391c0cb3, 0x4ed8aa4a, 0x5b9cca4f, 0x682e6ff3,
0x748f82ee, 0x78a5636f, 0x84c87814, 0x8cc70208, 0x90befffa, 0xa4506ceb, 0xbef9a3f7, 0xc67178f2]
def kV : HProp := rdb 3 (wsV kL)
structure St where
  a : UInt32
  b : UInt32
  c : UInt32
  d : UInt32
  e : UInt32
  f : UInt32
  g : UInt32
  h : UInt32
def St.l (s : St) : List UInt32 := [s.a, s.b, s.c, s.d, s.e, s.f, s.g, s.h]
def St.t1 (s : St) (k w : UInt32) : UInt32 := s.h + (rotr s.e 6 ^^^ rotr s.e 11 ^^^ rotr s.e 25) + ((s.e &&& s.f) ||| (~~~ s.e &&& s.g)) + k + w
def St.t2 (s : St) : UInt32 := (rotr s.a 2 ^^^ rotr s.a 13 ^^^ rotr s.a 22) + ((s.a &&& s.b) ||| (s.a &&& s.c) ||| (s.b &&& s.c))
def rndS (k w : UInt32) (s : St) : St := ⟨s.t1 k w + s.t2, s.a, s.b, s.c, s.d + s.t1 k w, s.e, s.f, s.g⟩
def rnds (ws : List UInt32) (s : St) : Nat → St
  | 0 => s
  | t + 1 => rndS (gW kL t) (gW ws t) (rnds ws s t)
def addS (s u : St) : St := ⟨s.a + u.a, s.b + u.b, s.c + u.c, s.d + u.d, s.e + u.e, s.f + u.f, s.g + u.g, s.h + u.h⟩
def procS (bl : List UInt8) (s : St) : St := addS s (rnds (wL bl 64) s 64)
def mixS (s u : List UInt32) (i : Nat) : List UInt32 := (List.zipWith (· + ·) s u).take i ++ s.drop i
theorem mixS_len {s u : List UInt32} (h : s.length = u.length) (i : Nat) (hi : i ≤ s.length) : (mixS s u i).length = s.length := by
  unfold mixS; simp [h]; omega
theorem mixS_get {s u : List UInt32} (h : s.length = u.length) (i : Nat) (hi : i < s.length) : (wsV (mixS s u i))[i]? = some (wV s[i]) := by
  have hl := mixS_len h i (by omega)
  rw [wsV_get (by omega)]
  congr 2
  unfold mixS
  rw [List.getElem_append_right (by simp [h]; omega)]
  simp [h, Nat.min_eq_left (show i ≤ u.length by omega)]
theorem mixS_set {s u : List UInt32} (h : s.length = u.length) (i : Nat) (hi : i < s.length) : (wsV (mixS s u i)).set i (wV (s[i] + u[i])) = wsV (mixS s u (i + 1)) := by
  unfold mixS wsV
  rw [← List.map_set]
  congr 1
  have hz : i < (List.zipWith (· + ·) s u).length := by simp [← h]; exact hi
  have hz2 : ((List.zipWith (· + ·) s u).take i).length = i := by rw [List.length_take]; omega
  rw [List.set_append_right _ _ (by omega), hz2, Nat.sub_self, List.drop_eq_getElem_cons hi, List.set_cons_zero, List.take_succ_eq_append_getElem hz, List.append_assoc]
  simp

theorem process_spec (bl : List UInt8) (hb : bl.length = 64) (s : St) : Fun Tryd.prog 98 [.agg (wsV s.l).toArray, .agg (bsV bl).toArray] [kV] [] fun v H => v = .agg (wsV (procS bl s).l).toArray ∧ H = [] := by
  refine xenter (p := pg) Tryd.call98 Tryd.func98 fun C => ?_
  haveI := RB.of C (b := 3) (l := wsV kL) (by simp [kV])
  iterate 2 (first | refine xst ?_ | refine xar ?_ | refine xop ?_ | refine xlen ?_ | refine xld rfl ?_ | refine xsto rfl ?_ | refine xno ?_ | refine xt ?_ | refine xf ?_)
  refine xnew fun b2 => ?_
  refine xnew fun b3 => ?_
  refine xnew fun b4 => ?_
  refine xrep 1 (bsV bl) rfl rfl ?_
  iterate 3 (first | refine xst ?_ | refine xar ?_ | refine xop ?_ | refine xlen ?_ | refine xld rfl ?_ | refine xsto rfl ?_ | refine xno ?_ | refine xt ?_ | refine xf ?_)
  refine xld rfl ?_ (hv := partF_all rfl (by rw [bsV_length, hb]; rfl))
  refine xcall (expand_spec bl hb) ?_
  rintro v H ⟨rfl, rfl⟩
  refine G.app ?_
  obtain ⟨ws, hws⟩ : ∃ ws, wL bl 64 = ws := ⟨_, rfl⟩
  have hwl : ws.length = 64 := by rw [← hws, wL_len]
  refine xE 18 (.agg (wsV ws).toArray) rfl (by rw [hws]) ?_
  refine xnew fun b5 => ?_
  refine xsta (cs := wsV ws) rfl (by rw [wsV_length, hwl]; rfl) (wsV_one ws) (wsV ws) (by
    rw [wsV_length, hwl]; simp) (by rw [wsV_length, hwl]; exact Nat.le_refl _) ?_
  repeat (first | refine xst ?_ | refine xar ?_ | refine xop ?_ | refine xlen ?_ | refine xld rfl ?_ | refine xsto rfl ?_ | refine xno ?_ | refine xt ?_ | refine xf ?_)
  refine xnew fun b6 => ?_
  repeat (first | refine xst ?_ | refine xar ?_ | refine xop ?_ | refine xlen ?_ | refine xld rfl ?_ | refine xsto rfl ?_ | refine xno ?_ | refine xt ?_ | refine xf ?_)
  refine xrep 3 (List.replicate 8 (.int .u32 0)) rfl rfl ?_
  refine xrep 1 (wsV (rnds ws s 0).l) rfl rfl ?_
  refine G.loop (σ := Nat) (fun t => [(2, .pointer (some ⟨b2, 0, none⟩)), (4, .pointer (some ⟨b4, 0, none⟩)), (5, .pointer (some ⟨b5, 0, none⟩)), (6, .pointer (some ⟨b6, 0, none⟩)), (20, .int .i64 (t : Int))])
    (fun t => [pts b6 (wsV (rnds ws s t).l), pts b5 (wsV ws), pts b4 (List.replicate 8 (.int .u32 0)), pts b2 (wsV s.l)]) (fun t => t ≤ 64) (fun t => 64 - t) 0 (Nat.zero_le _) ⟨rfl, rfl, rfl, rfl, rfl, trivial⟩ ent_pick ?_
  intro t ht
  repeat (first | refine xst ?_ | refine xar ?_ | refine xop ?_ | refine xlen ?_ | refine xld rfl ?_ | refine xsto rfl ?_ | refine xno ?_ | refine xt ?_ | refine xf ?_)
  refine xd (fun h3 => ?_) (fun h3 => ?_)
  · have ht' : t < 64 := by omega
    obtain ⟨u, hu⟩ : ∃ u, rnds ws s t = u := ⟨_, rfl⟩
    have hu1 : rnds ws s (t + 1) = rndS (gW kL t) (gW ws t) u := by rw [← hu]; rfl
    refine xrep 0 (wsV u.l) rfl (by rw [hu]) ?_
    repeat (first | refine xst ?_ | refine xar ?_ | refine xop ?_ | refine xlen ?_ | refine xld rfl ?_ | refine xsto rfl ?_ | refine xno ?_ | refine xt ?_ | refine xf ?_)
    refine xdraw ?_
    refine xdix 0 ?_ (hk := by first | omega | exact Nat.le_of_ble_eq_true rfl)
    refine xdld 1 rfl rfl ?_
    refine xdix 2 ?_ (hk := by first | omega | exact Nat.le_of_ble_eq_true rfl)
    refine xdld 3 rfl rfl ?_
    refine xdix 4 ?_ (hk := by first | omega | exact Nat.le_of_ble_eq_true rfl)
    refine xdld 5 rfl rfl ?_
    refine xdix 6 ?_ (hk := by first | omega | exact Nat.le_of_ble_eq_true rfl)
    refine xdld 7 rfl rfl ?_
    refine xdix 8 ?_ (hk := by first | omega | exact Nat.le_of_ble_eq_true rfl)
    refine xdld 9 rfl rfl ?_
    refine xdix 10 ?_ (hk := by first | omega | exact Nat.le_of_ble_eq_true rfl)
    refine xdld 11 rfl rfl ?_
    refine xdop 12 ?_
    refine xdop 13 ?_
    refine xdop 14 ?_
    refine xdop 15 ?_
    refine xdop 16 ?_
    refine xdop 17 ?_
    refine xdend ?_
    repeat (first | refine xst ?_ | refine xar ?_ | refine xop ?_ | refine xlen ?_ | refine xld rfl ?_ | refine xsto rfl ?_ | refine xno ?_ | refine xt ?_ | refine xf ?_)
    have hkl : kL.length = 64 := rfl
    have hk : (wsV kL)[t]? = some (wV (gW kL t)) := by
      rw [wsV_get (by omega)]; unfold gW; rw [List.getD_eq_getElem?_getD, List.getElem?_eq_getElem (by omega)]; rfl
    have hw : (wsV ws)[t]? = some (wV (gW ws t)) := by
      rw [wsV_get (by omega)]; unfold gW; rw [List.getD_eq_getElem?_getD, List.getElem?_eq_getElem (by omega)]; rfl
    refine xdraw ?_
    refine xdix 0 ?_ (hk := by first | omega | exact Nat.le_of_ble_eq_true rfl)
    refine xdld 1 rfl rfl ?_
    refine xdop 2 ?_
    refine xdop 4 ?_
    refine xdop 7 ?_
    refine xdop 11 ?_
    refine xdop 12 ?_
    refine xdop 13 ?_
    refine xdop 14 ?_
    refine xdop 15 ?_
    refine xdop 16 ?_
    refine xdop 17 ?_
    refine xdop 18 ?_
    refine xdop 20 ?_
    refine xdix 21 ?_ (hk := by first | omega | exact Nat.le_of_ble_eq_true rfl)
    refine xEp 56 t rfl (Nat.zero_add _) ?_
    refine xdld 22 rfl rfl ?_ (hv := partF_one rfl hk)
    refine xdop 24 ?_
    refine xdix 25 ?_ (hk := by first | omega | exact Nat.le_of_ble_eq_true rfl)
    refine xEp 60 t rfl (Nat.zero_add _) ?_
    refine xdld 26 rfl rfl ?_ (hv := partF_one rfl hw)
    refine xdact 3 ?_
    refine xcall (rotate_spec u.e 6 (by omega) (by omega)) ?_
    rintro v H ⟨rfl, rfl⟩
    refine G.app ?_
    refine xst ?_
    refine xdact 5 ?_
    refine xcall (rotate_spec u.e 11 (by omega) (by omega)) ?_
    rintro v H ⟨rfl, rfl⟩
    refine G.app ?_
    refine xst ?_
    refine xdop 6 ?_
    refine xdact 8 ?_
    refine xcall (rotate_spec u.e 25 (by omega) (by omega)) ?_
    rintro v H ⟨rfl, rfl⟩
    refine G.app ?_
    refine xst ?_
    refine xdop 9 ?_
    (first | refine xdar 10 ?_ | refine xdop 10 ?_)
    (first | refine xdar 19 ?_ | refine xdop 19 ?_)
    (first | refine xdar 23 ?_ | refine xdop 23 ?_)
    (first | refine xdar 27 ?_ | refine xdop 27 ?_)
    refine xE 62 (wV (u.t1 (gW kL t) (gW ws t))) rfl (wE (by simp only [w_add, w_xor, w_and, w_or, w_not]; rfl)) ?_
    refine xdop 28 ?_
    refine xdend ?_
    repeat (first | refine xst ?_ | refine xar ?_ | refine xop ?_ | refine xlen ?_ | refine xld rfl ?_ | refine xsto rfl ?_ | refine xno ?_ | refine xt ?_ | refine xf ?_)
    refine xcall (rotate_spec u.a 2 (by omega) (by omega)) ?_
    rintro v H ⟨rfl, rfl⟩
    refine G.app ?_
    repeat (first | refine xst ?_ | refine xar ?_ | refine xop ?_ | refine xlen ?_ | refine xld rfl ?_ | refine xsto rfl ?_ | refine xno ?_ | refine xt ?_ | refine xf ?_)
    refine xcall (rotate_spec u.a 13 (by omega) (by omega)) ?_
    rintro v H ⟨rfl, rfl⟩
    refine G.app ?_
    repeat (first | refine xst ?_ | refine xar ?_ | refine xop ?_ | refine xlen ?_ | refine xld rfl ?_ | refine xsto rfl ?_ | refine xno ?_ | refine xt ?_ | refine xf ?_)
    refine xcall (rotate_spec u.a 22 (by omega) (by omega)) ?_
    rintro v H ⟨rfl, rfl⟩
    refine G.app ?_
    repeat (refine xnot 15 ?_; first | refine xst ?_ | refine xar ?_ | refine xop ?_ | refine xlen ?_ | refine xld rfl ?_ | refine xsto rfl ?_ | refine xno ?_ | refine xt ?_ | refine xf ?_)
    refine xE 15 (wV u.t2) rfl (wE (by simp only [w_add, w_xor, w_and, w_or]; rfl)) ?_
    repeat (first | refine xst ?_ | refine xar ?_ | refine xop ?_ | refine xlen ?_ | refine xld rfl ?_ | refine xsto rfl ?_ | refine xno ?_ | refine xt ?_ | refine xf ?_)
    refine xE 85 (wV (u.t1 (gW kL t) (gW ws t) + u.t2)) rfl (wE (w_add _ _)) ?_
    refine xix ?_ (hk := Nat.le_of_ble_eq_true rfl)
    repeat (refine xnot 92 ?_; first | refine xst ?_ | refine xar ?_ | refine xop ?_ | refine xlen ?_ | refine xld rfl ?_ | refine xsto rfl ?_ | refine xno ?_ | refine xt ?_ | refine xf ?_)
    refine xE 92 (wV (u.d + u.t1 (gW kL t) (gW ws t))) rfl (wE (w_add _ _)) ?_
    repeat (first | refine xst ?_ | refine xar ?_ | refine xop ?_ | refine xlen ?_ | refine xld rfl ?_ | refine xsto rfl ?_ | refine xno ?_ | refine xt ?_ | refine xf ?_)
    refine xrep 0 (wsV (rnds ws s (t + 1)).l) rfl (by rw [hu1]; rfl) ?_
    exact G.fin (t + 1) ⟨by omega, by omega⟩ ⟨rfl, rfl, rfl, rfl, rfl, trivial⟩ ent_pick
  · obtain rfl : t = 64 := by omega
    obtain ⟨u, hu⟩ : ∃ u, rnds ws s 64 = u := ⟨_, rfl⟩
    refine xrep 0 (wsV u.l) rfl (by rw [hu]) ?_
    repeat (first | refine xst ?_ | refine xar ?_ | refine xop ?_ | refine xlen ?_ | refine xld rfl ?_ | refine xsto rfl ?_ | refine xno ?_ | refine xt ?_ | refine xf ?_)
    have hlen : s.l.length = u.l.length := rfl
    have hs8 : s.l.length = 8 := rfl
    refine xrep 3 (wsV (mixS s.l u.l 0)) rfl rfl ?_
    refine G.loop (σ := Nat) (fun t => [(2, .pointer (some ⟨b2, 0, none⟩)), (4, .pointer (some ⟨b4, 0, none⟩)), (6, .pointer (some ⟨b6, 0, none⟩)), (98, .int .i64 (t : Int))])
      (fun t => [pts b2 (wsV (mixS s.l u.l t)), pts b6 (wsV u.l), pts b4 (List.replicate 8 (.int .u32 0))]) (fun t => t ≤ 8) (fun t => 8 - t) 0 (Nat.zero_le _) ⟨rfl, rfl, rfl, rfl, trivial⟩ ent_pick ?_
    intro t ht
    repeat (first | refine xst ?_ | refine xar ?_ | refine xop ?_ | refine xlen ?_ | refine xld rfl ?_ | refine xsto rfl ?_ | refine xno ?_ | refine xt ?_ | refine xf ?_)
    refine xd (fun h5 => ?_) (fun h5 => ?_)
    · have ht8 : t < 8 := by omega
      repeat (first | refine xst ?_ | refine xar ?_ | refine xop ?_ | refine xlen ?_ | refine xld rfl ?_ | refine xsto rfl ?_ | refine xno ?_ | refine xt ?_ | refine xf ?_)
      have e1 := mixS_get hlen t (by omega)
      have e2 : (wsV u.l)[t]? = some (wV (u.l[t]'(by omega))) := wsV_get (by omega)
      refine xdraw ?_
      refine xdop 0 ?_
      refine xdix 1 ?_ (hk := by first | omega | exact Nat.le_of_ble_eq_true rfl)
      refine xEp 102 t rfl (Nat.zero_add _) ?_
      refine xdld 2 rfl rfl ?_ (hv := partF_one rfl e1)
      refine xdop 3 ?_
      refine xdix 4 ?_ (hk := by first | omega | exact Nat.le_of_ble_eq_true rfl)
      refine xEp 105 t rfl (Nat.zero_add _) ?_
      refine xdld 5 rfl rfl ?_ (hv := partF_one rfl e2)
      (first | refine xdar 6 ?_ | refine xdop 6 ?_)
      refine xE 107 (wV (s.l[t]'(by omega) + u.l[t]'(by omega))) rfl (wE (w_add _ _)) ?_
      refine xdix 7 ?_ (hk := by first | omega | exact Nat.le_of_ble_eq_true rfl)
      refine xEp 108 t rfl (Nat.zero_add _) ?_
      refine xdact 8 ?_
      refine xsto rfl ?_ (hm := (putF_one (by rw [wsV_length, mixS_len hlen t (by omega)]; omega)).trans (congrArg some (mixS_set hlen t (by omega))))
      refine xst ?_
      refine xdend ?_
      repeat (first | refine xst ?_ | refine xar ?_ | refine xop ?_ | refine xlen ?_ | refine xld rfl ?_ | refine xsto rfl ?_ | refine xno ?_ | refine xt ?_ | refine xf ?_)
      exact G.fin (t + 1) ⟨by omega, by omega⟩ ⟨rfl, rfl, rfl, rfl, trivial⟩ ent_pick
    · obtain rfl : t = 8 := by omega
      have e8 : mixS s.l u.l 8 = (procS bl s).l := by
        unfold procS; rw [hws, hu]; rfl
      refine xrep 0 (wsV (procS bl s).l) rfl (by rw [e8]) ?_
      repeat (first | refine xst ?_ | refine xar ?_ | refine xop ?_ | refine xlen ?_ | refine xld rfl ?_ | refine xsto rfl ?_ | refine xno ?_ | refine xt ?_ | refine xf ?_)
      refine xretm [] rfl (.c .nil rfl rfl (partF_all rfl rfl)) ?_
      exact ⟨rfl, rfl⟩
end Go.Proofs.YthlaacnjgdmakaaDoor

/- sha: the hash. -/
namespace Go.Proofs.YthlaacnjgdmakaaDoor
open Go.W

structure HS where
  st : St
  rest : List UInt8
  len : Nat
def HS.v (h : HS) : List Value := wsV h.st.l ++ (bsV h.rest ++ [.int .i64 (h.len : Int)])
def hByte (h : HS) (x : UInt8) : HS :=
  if h.len % 64 = 63 then ⟨procS (h.rest.set (h.len % 64) x) h.st, h.rest.set (h.len % 64) x, h.len + 1⟩ else ⟨h.st, h.rest.set (h.len % 64) x, h.len + 1⟩
def hWrite (h : HS) (bs : List UInt8) : HS := bs.foldl hByte h
def hChunk (h : HS) (xs : List UInt8) : HS :=
  if h.len % 64 + xs.length = 64 then ⟨procS (h.rest.take (h.len % 64) ++ xs ++ h.rest.drop (h.len % 64 + xs.length)) h.st, h.rest.take (h.len % 64) ++ xs ++ h.rest.drop (h.len % 64 + xs.length), h.len + xs.length⟩
  else ⟨h.st, h.rest.take (h.len % 64) ++ xs ++ h.rest.drop (h.len % 64 + xs.length), h.len + xs.length⟩
theorem hByte_rest (h : HS) (x : UInt8) : (hByte h x).rest.length = h.rest.length := by unfold hByte; split <;> simp
theorem hByte_len (h : HS) (x : UInt8) : (hByte h x).len = h.len + 1 := by unfold hByte; split <;> rfl
theorem hWrite_rest : ∀ (bs : List UInt8) (h : HS), (hWrite h bs).rest.length = h.rest.length
  | [], h => rfl
  | x :: bs, h => by rw [hWrite, List.foldl_cons]; exact (hWrite_rest bs _).trans (hByte_rest h x)
theorem hWrite_len : ∀ (bs : List UInt8) (h : HS), (hWrite h bs).len = h.len + bs.length
  | [], h => rfl
  | x :: bs, h => by rw [hWrite, List.foldl_cons]; refine (hWrite_len bs _).trans ?_; rw [hByte_len, List.length_cons]; omega
theorem set_mid {l : List UInt8} {k : Nat} {x : UInt8} (h : k < l.length) : l.set k x = l.take k ++ [x] ++ l.drop (k + 1) := by
  rw [List.set_eq_take_append_cons_drop, if_pos h]; simp
theorem hWrite_chunk : ∀ (xs : List UInt8) (h : HS), h.rest.length = 64 → xs ≠ [] → h.len % 64 + xs.length ≤ 64 → hWrite h xs = hChunk h xs
  | [x], h, hr, _, hl => by
    have : h.len % 64 < 64 := Nat.mod_lt _ (by omega)
    show hByte h x = _
    unfold hByte hChunk
    rw [set_mid (by omega)]
    by_cases hc : h.len % 64 = 63
    · rw [if_pos hc, if_pos (by simp [hc])]; rfl
    · rw [if_neg hc, if_neg (by simp; omega)]; rfl
  | x :: y :: xs, h, hr, _, hl => by
    have h64 : h.len % 64 < 64 := Nat.mod_lt _ (by omega)
    simp only [List.length_cons] at hl
    have hm : (h.len + 1) % 64 = h.len % 64 + 1 := by omega
    show hWrite (hByte h x) (y :: xs) = _
    rw [hWrite_chunk (y :: xs) (hByte h x) (by rw [hByte_rest, hr]) (by simp) (by rw [hByte_len, hm]; simp only [List.length_cons]; omega)]
    have hb : hByte h x = ⟨h.st, h.rest.take (h.len % 64) ++ [x] ++ h.rest.drop (h.len % 64 + 1), h.len + 1⟩ := by
      unfold hByte; rw [if_neg (by omega), set_mid (by omega)]
    have ht : (h.rest.take (h.len % 64)).length = h.len % 64 := by rw [List.length_take]; omega
    have key : (h.rest.take (h.len % 64) ++ [x] ++ h.rest.drop (h.len % 64 + 1)).take (h.len % 64 + 1) ++ (y :: xs) ++ (h.rest.take (h.len % 64) ++ [x] ++ h.rest.drop (h.len % 64 + 1)).drop (h.len % 64 + 1 + (y :: xs).length)
        = h.rest.take (h.len % 64) ++ (x :: y :: xs) ++ h.rest.drop (h.len % 64 + (x :: y :: xs).length) := by
      rw [List.take_append_of_le_length (by simp [ht]), List.take_of_length_le (by simp [ht]), List.drop_append, List.drop_eq_nil_of_le (by simp [ht]), List.nil_append, List.drop_drop]
      simp only [List.length_append, ht, List.length_cons, List.length_nil, List.append_assoc, List.cons_append, List.nil_append]
      congr 5
      omega
    unfold hChunk
    rw [hb]
    simp only [hm]
    rw [key]
    have e1 : h.len % 64 + 1 + (y :: xs).length = h.len % 64 + (x :: y :: xs).length := by simp only [List.length_cons]; omega
    have e2 : h.len + 1 + (y :: xs).length = h.len + (x :: y :: xs).length := by simp only [List.length_cons]; omega
    rw [e1, e2]
theorem hWrite_append (h : HS) (xs ys : List UInt8) : hWrite h (xs ++ ys) = hWrite (hWrite h xs) ys := by simp [hWrite]

theorem HS.v_len {u : HS} (h : u.rest.length = 64) : u.v.length = 73 := by
  unfold HS.v; rw [List.length_append, List.length_append, wsV_length, bsV_length, h]; rfl
theorem HS.v_at {u : HS} (h : u.rest.length = 64) : u.v[72]? = some (.int .i64 (u.len : Int)) := by
  have : (wsV u.st.l).length = 8 := rfl
  unfold HS.v
  rw [List.getElem?_append_right (by omega), this, List.getElem?_append_right (by rw [bsV_length]; omega), bsV_length, h]; rfl
theorem HS.v_rest {u : HS} (h : u.rest.length = 64) : (u.v.drop 8).take 64 = bsV u.rest := by
  show (bsV u.rest ++ [Value.int .i64 (u.len : Int)]).take 64 = _
  rw [List.take_append_of_le_length (by rw [bsV_length]; omega), List.take_of_length_le (by rw [bsV_length]; omega)]
theorem HS.v_part {u : HS} (h : u.rest.length = 64) {i : TI} (ha : i.agg = true) (hs : i.size = 64) : partF i u.v (0 + 8) = some (.agg (bsV u.rest).toArray) := by
  rw [partF_agg ha (by rw [HS.v_len h, hs]; exact Nat.le_of_ble_eq_true rfl), hs]
  exact congrArg (fun l : List Value => some (Value.agg l.toArray)) (HS.v_rest h)
theorem HS.v_st (u : HS) (s : St) : putF (0 + 0) (wsV s.l) u.v = some (HS.v ⟨s, u.rest, u.len⟩) := by
  rw [putF_of (by unfold HS.v; rw [List.length_append]; exact Nat.le_trans (show 0 + 0 + 8 ≤ 8 by omega) (Nat.le_add_right _ _))]
  rfl
/-- The rest, put anew from 'used' on. -/
theorem HS.v_put {u : HS} (h : u.rest.length = 64) (k n : Nat) (xs : List UInt8) (hx : xs.length = n) (hk : k + n ≤ 64) :
    u.v.take (8 + k) ++ bsV xs ++ u.v.drop (8 + k + n) = HS.v ⟨u.st, u.rest.take k ++ xs ++ u.rest.drop (k + n), u.len⟩ := by
  have h8 : (wsV u.st.l).length = 8 := rfl
  unfold HS.v
  rw [List.take_append, List.take_of_length_le (by omega), h8, show 8 + k - 8 = k by omega, List.take_append_of_le_length (by rw [bsV_length]; omega), bsV_take,
    List.drop_append, List.drop_eq_nil_of_le (by omega), List.nil_append, h8, show 8 + k + n - 8 = k + n by omega, List.drop_append_of_le_length (by rw [bsV_length]; omega), bsV_drop]
  simp only [bsV_append, List.append_assoc]
theorem HS.v_set {u : HS} (h : u.rest.length = 64) (m : Nat) : u.v.set 72 (.int .i64 (m : Int)) = HS.v ⟨u.st, u.rest, m⟩ := by
  have h8 : (wsV u.st.l).length = 8 := rfl
  unfold HS.v
  rw [List.set_append_right _ _ (by omega), h8, List.set_append_right _ _ (by rw [bsV_length]; omega), bsV_length, h]
  rfl
structure WrSt where
  k : Nat
  a : Option Addr
  cap : Nat
theorem write_spec (q : Nat) (a : Option Addr) (n cap : Nat) (bs : List UInt8) (h : HS) (hn : n = bs.length) (hr : h.rest.length = 64) (hl : h.len + bs.length ≤ 1000000000) :
    Fun Tryd.prog 78 [.pointer (some ⟨q, 0, none⟩), .slice a n cap] [kV, slR 1 a n cap (bsV bs)] [pts q h.v] fun v H => v = .tuple #[] ∧ H = [pts q (hWrite h bs).v] := by
  subst hn
  refine xenter (p := pg) Tryd.call78 Tryd.func78 fun C => ?_
  haveI := RB.of C (b := 3) (l := wsV kL) (by simp [kV])
  haveI : RP C kV := RP.of C (by simp)
  have hs := RP.slR (RP.of C (X := slR 1 a bs.length cap (bsV bs)) (by simp))
  repeat (first | refine xst ?_ | refine xar ?_ | refine xop ?_ | refine xlen ?_ | refine xld rfl ?_ | refine xsto rfl ?_ | refine xno ?_ | refine xt ?_ | refine xf ?_)
  refine G.loop (σ := WrSt) (fun s => [(0, .pointer (some ⟨q, 0, none⟩)), (1, .slice s.a (bs.length - s.k) s.cap)]) (fun s => [pts q (hWrite h (bs.take s.k)).v])
    (fun s => s.k ≤ bs.length ∧ RS C 1 s.a (bs.length - s.k) s.cap (bsV (bs.drop s.k))) (fun s => bs.length - s.k) ⟨0, a, cap⟩ ⟨Nat.zero_le _, hs⟩ ⟨rfl, rfl, trivial⟩ (Ent.refl _) ?_
  rintro ⟨k, a', cap'⟩ ⟨hk, hrs⟩
  have hk : k ≤ bs.length := hk
  have hrs : RS C 1 a' (bs.length - k) cap' (bsV (bs.drop k)) := hrs
  show G C _ [(0, .pointer (some ⟨q, 0, none⟩)), (1, .slice a' (bs.length - k) cap')] [pts q (hWrite h (bs.take k)).v]
  obtain ⟨u, hu⟩ : ∃ u, hWrite h (bs.take k) = u := ⟨_, rfl⟩
  have hur : u.rest.length = 64 := by rw [← hu, hWrite_rest, hr]
  have hul : u.len = h.len + k := by rw [← hu, hWrite_len, List.length_take, Nat.min_eq_left hk]
  refine xrep 0 u.v rfl (by rw [hu]) ?_
  repeat (first | refine xst ?_ | refine xar ?_ | refine xop ?_ | refine xlen ?_ | refine xld rfl ?_ | refine xsto rfl ?_ | refine xno ?_ | refine xt ?_ | refine xf ?_)
  refine xd (fun h1 => ?_) (fun h1 => ?_)
  · have hk' : k < bs.length := by omega
    have hu64 : u.len % 64 < 64 := Nat.mod_lt _ (by omega)
    have hmod : ((u.len : Int).tmod (Int.ofNat (63 + 1))) = ((u.len % 64 : Nat) : Int) := rfl
    repeat (first | refine xst ?_ | refine xar ?_ | refine xop ?_ | refine xlen ?_ | refine xld rfl ?_ | refine xsto rfl ?_ | refine xno ?_ | refine xt ?_ | refine xf ?_)
    refine xld rfl ?_ (hv := partF_one rfl (HS.v_at hur))
    repeat (refine xnot 13 ?_; first | refine xst ?_ | refine xar ?_ | refine xop ?_ | refine xlen ?_ | refine xld rfl ?_ | refine xsto rfl ?_ | refine xno ?_ | refine xt ?_ | refine xf ?_)
    refine xE 13 (.int .i64 ((u.len % 64 : Nat) : Int)) rfl (congrArg (Value.int .i64) hmod) ?_
    repeat (first | refine xst ?_ | refine xar ?_ | refine xop ?_ | refine xlen ?_ | refine xld rfl ?_ | refine xsto rfl ?_ | refine xno ?_ | refine xt ?_ | refine xf ?_)
    refine xslice (u.len % 64) 64 rfl rfl rfl (by omega) (Nat.le_refl _) ?_
    refine xE 18 (.slice (some ⟨q, 8 + u.len % 64, none⟩) (64 - u.len % 64) (64 - u.len % 64)) rfl (congrArg (fun z => Value.slice z (64 - u.len % 64) (64 - u.len % 64)) ((subA_lt hu64).trans (congrArg (fun o => some (Addr.mk q o none)) (by rw [Nat.zero_add]; exact congrArg (8 + ·) (Nat.mul_one _))))) ?_
    repeat (first | refine xst ?_ | refine xar ?_ | refine xop ?_ | refine xlen ?_ | refine xld rfl ?_ | refine xsto rfl ?_ | refine xno ?_ | refine xt ?_ | refine xf ?_)
    obtain ⟨n, hn⟩ : ∃ n, Nat.min (bs.length - k) (64 - u.len % 64) = n := ⟨_, rfl⟩
    have hn1 : 1 ≤ n ∧ n ≤ bs.length - k ∧ n ≤ 64 - u.len % 64 := by subst hn; exact ⟨Nat.le_min.2 ⟨by omega, by omega⟩, Nat.min_le_left _ _, Nat.min_le_right _ _⟩
    obtain ⟨xs, hxs⟩ : ∃ xs, (bs.drop k).take n = xs := ⟨_, rfl⟩
    have hxl : xs.length = n := by rw [← hxs, List.length_take, List.length_drop]; omega
    obtain ⟨r1, hr1⟩ : ∃ r1, u.rest.take (u.len % 64) ++ xs ++ u.rest.drop (u.len % 64 + n) = r1 := ⟨_, rfl⟩
    have hr1l : r1.length = 64 := by rw [← hr1]; simp [hxl, hur]; omega
    refine xcopy rfl (SrcOk.rs hrs (bsV_one _)) n hn (HS.v ⟨u.st, r1, u.len⟩) (by
      rw [Nat.mul_one, bsV_take, hxs, HS.v_put hur _ n xs hxl (by omega), hr1]) (by rw [HS.v_len hur]; omega) ?_
    repeat (first | refine xst ?_ | refine xar ?_ | refine xop ?_ | refine xlen ?_ | refine xld rfl ?_ | refine xsto rfl ?_ | refine xno ?_ | refine xt ?_ | refine xf ?_)
    refine xslice n (bs.length - k) rfl rfl rfl hn1.2.1 hrs.len.2 ?_
    refine xE 23 (.slice (subA a' n 1 cap') (bs.length - (k + n)) (cap' - n)) rfl (by rw [show bs.length - k - n = bs.length - (k + n) by omega]; rfl) ?_
    repeat (first | refine xst ?_ | refine xar ?_ | refine xop ?_ | refine xlen ?_ | refine xld rfl ?_ | refine xsto rfl ?_ | refine xno ?_ | refine xt ?_ | refine xf ?_)
    refine xld rfl ?_ (hv := partF_one rfl (HS.v_at hr1l))
    refine xE 27 (.int .i64 (u.len : Int)) rfl rfl ?_
    repeat (refine xnot 29 ?_; first | refine xst ?_ | refine xar ?_ | refine xop ?_ | refine xlen ?_ | refine xld rfl ?_ | refine xsto rfl ?_ | refine xno ?_ | refine xt ?_ | refine xf ?_)
    refine xE 29 (.int .i64 ((u.len + n : Nat) : Int)) rfl (by rw [Int.natCast_add]) ?_
    repeat (first | refine xst ?_ | refine xar ?_ | refine xop ?_ | refine xlen ?_ | refine xld rfl ?_ | refine xsto rfl ?_ | refine xno ?_ | refine xt ?_ | refine xf ?_)
    refine xsto rfl ?_ (hm := (putF_one (by rw [HS.v_len hr1l]; exact Nat.le_of_ble_eq_true rfl)).trans (congrArg some (HS.v_set hr1l (u.len + n))))
    repeat (first | refine xst ?_ | refine xar ?_ | refine xop ?_ | refine xlen ?_ | refine xld rfl ?_ | refine xsto rfl ?_ | refine xno ?_ | refine xt ?_ | refine xf ?_)
    have hstep : hWrite h (bs.take (k + n)) = hChunk u xs := by
      have e : bs.take (k + n) = bs.take k ++ xs := by rw [← hxs, List.take_add]
      rw [e, hWrite_append, hu, hWrite_chunk xs u hur (by intro e; rw [e] at hxl; simp at hxl; omega) (by omega)]
    have hnext : RS C 1 (subA a' n 1 cap') (bs.length - (k + n)) (cap' - n) (bsV (bs.drop (k + n))) := by
      have := hrs.subB (k := n) (m := bs.length - k) hn1.2.1 (Nat.le_refl _)
      rwa [List.drop_drop, List.take_of_length_le (by rw [List.length_drop]; omega), show bs.length - k - n = bs.length - (k + n) by omega] at this
    refine xd (fun h2 => ?_) (fun h2 => ?_)
    · have ec : hChunk u xs = ⟨procS r1 u.st, r1, u.len + n⟩ := by
        unfold hChunk; rw [if_pos (by omega), hxl, hr1]
      have hrl : (u.st.l).length = 8 := rfl
      repeat (first | refine xst ?_ | refine xar ?_ | refine xop ?_ | refine xlen ?_ | refine xld rfl ?_ | refine xsto rfl ?_ | refine xno ?_ | refine xt ?_ | refine xf ?_)
      refine xdraw ?_
      refine xdop 0 ?_
      refine xdop 1 ?_
      refine xdop 2 ?_
      refine xdop 3 ?_
      refine xdld 4 rfl rfl ?_
      refine xdop 5 ?_
      refine xdop 6 ?_
      refine xdop 7 ?_
      refine xdld 8 rfl rfl ?_ (hv := HS.v_part (u := ⟨u.st, r1, u.len + n⟩) hr1l rfl rfl)
      refine xdact 9 ?_
      refine xcall (process_spec r1 hr1l u.st) ?_
      rintro v H ⟨rfl, rfl⟩
      refine G.app ?_
      refine xst ?_
      refine xdop 10 ?_
      refine xdop 11 ?_
      refine xdact 12 ?_
      refine xsto rfl ?_ (hm := HS.v_st ⟨u.st, r1, u.len + n⟩ (procS r1 u.st))
      refine xst ?_
      refine xdend ?_
      repeat (first | refine xst ?_ | refine xar ?_ | refine xop ?_ | refine xlen ?_ | refine xld rfl ?_ | refine xsto rfl ?_ | refine xno ?_ | refine xt ?_ | refine xf ?_)
      refine G.fin (⟨k + n, subA a' n 1 cap', cap' - n⟩ : WrSt) ⟨⟨by show k + n ≤ _; omega, hnext⟩, by show bs.length - (k + n) < bs.length - k; omega⟩ ⟨rfl, rfl, trivial⟩ ?_
      show Ent _ [pts q (hWrite h (bs.take (k + n))).v]
      rw [hstep, ec]
      exact ent_pick
    · have ec : hChunk u xs = ⟨u.st, r1, u.len + n⟩ := by
        unfold hChunk; rw [if_neg (by omega), hxl, hr1]
      repeat (first | refine xst ?_ | refine xar ?_ | refine xop ?_ | refine xlen ?_ | refine xld rfl ?_ | refine xsto rfl ?_ | refine xno ?_ | refine xt ?_ | refine xf ?_)
      refine G.fin (⟨k + n, subA a' n 1 cap', cap' - n⟩ : WrSt) ⟨⟨by show k + n ≤ _; omega, hnext⟩, by show bs.length - (k + n) < bs.length - k; omega⟩ ⟨rfl, rfl, trivial⟩ ?_
      show Ent _ [pts q (hWrite h (bs.take (k + n))).v]
      rw [hstep, ec]
      exact ent_pick
  · obtain rfl : k = bs.length := by omega
    repeat (first | refine xst ?_ | refine xar ?_ | refine xop ?_ | refine xlen ?_ | refine xld rfl ?_ | refine xsto rfl ?_ | refine xno ?_ | refine xt ?_ | refine xf ?_)
    refine xdonep [0] ?_
    rw [← hu, List.take_length]
    exact ⟨rfl, rfl⟩
end Go.Proofs.YthlaacnjgdmakaaDoor

/- sha: the digest. -/
namespace Go.Proofs.YthlaacnjgdmakaaDoor
open Go.W

def iniS : St := ⟨0x6a09e667, 0xbb67ae85, 0x3c6ef372, 0xa54ff53a, 0x510e527f, 0x9b05688c, 0x1f83d9ab, 0x5be0cd19⟩
def iniV : HProp := rdb 1 (wsV iniS.l)
def newH : HS := ⟨iniS, List.replicate 64 0, 0⟩
def wB (w : UInt32) (n : Nat) : UInt8 := UInt8.ofNat (w.toNat / 2 ^ n)
def outW (w : UInt32) : List UInt8 := [wB w 24, wB w 16, wB w 8, wB w 0]
def outS (l : List UInt32) : List UInt8 := l.flatMap outW
theorem outS_len (l : List UInt32) : (outS l).length = 4 * l.length := by
  induction l with
  | nil => rfl
  | cons w l ih => simp only [outS, List.flatMap_cons, List.length_append, List.length_cons] at *; rw [ih]; simp [outW]; omega
theorem outS_get {l : List UInt32} {i j : Nat} (hi : i < l.length) (hj : j < 4) : (bsV (outS l))[4 * i + j]? = some (bV ((outW l[i])[j]'(by simpa [outW] using hj))) := by
  have h1 : bsV (outS l) = l.flatMap (fun w => bsV (outW w)) := by
    unfold outS
    clear hi
    induction l with
    | nil => rfl
    | cons w l ih => rw [List.flatMap_cons, bsV_append, List.flatMap_cons, ih]
  rw [h1, Nat.mul_comm, flat_get (s := 4) (fun x => by simp [bsV, outW]) l i j hi hj, bsV_get (by simpa [outW] using hj)]
theorem wB_byte (w : UInt32) (n : Nat) (h : n ≤ 32) : IntKind.u8.wrap ((w.toNat : Int).fdiv (2 ^ (min n IntKind.u32.bits))) = ((wB w n).toNat : Int) := by
  rw [w_shr w n h, u8_wrap, wShr_toNat]; rfl
theorem wB_byte0 (w : UInt32) : IntKind.u8.wrap (w.toNat : Int) = ((wB w 0).toNat : Int) := by
  rw [u8_wrap]; simp [wB]

theorem newH_spec : Fun Tryd.prog 77 [] [iniV] [] fun v H => ∃ q, v = .pointer (some ⟨q, 0, none⟩) ∧ H = [pts q newH.v] := by
  refine xenter (p := pg) Tryd.call77 Tryd.func77 fun C => ?_
  haveI := RB.of C (b := 1) (l := wsV iniS.l) (by simp [iniV])
  repeat (first | refine xst ?_ | refine xar ?_ | refine xop ?_ | refine xlen ?_ | refine xld rfl ?_ | refine xsto rfl ?_ | refine xno ?_ | refine xt ?_ | refine xf ?_)
  refine xnew fun q => ?_
  repeat (first | refine xst ?_ | refine xar ?_ | refine xop ?_ | refine xlen ?_ | refine xld rfl ?_ | refine xsto rfl ?_ | refine xno ?_ | refine xt ?_ | refine xf ?_)
  refine xrep 0 newH.v rfl rfl ?_
  refine xretp [0] ?_
  exact ⟨q, rfl, rfl⟩

def hFin (h : HS) : List UInt8 :=
  let c1 := hWrite h [0x80]
  let c2 := hWrite c1 (List.replicate ((120 - c1.len % 64) % 64) 0)
  let c3 := hWrite c2 (putB (h.len * 8) 8).reverse
  outS c3.st.l
theorem zeros_bytes (n : Nat) : zeros n [.int .u8 0] = bsV (List.replicate n 0) := by
  simp [zeros, bsV, bV]
theorem tail_get (n i : Nat) (h : i < 8) : (bsV (putB n 8).reverse)[i]? = some (bV (UInt8.ofNat (n / 2 ^ (8 * (7 - i))))) := by
  rw [bsV_get (by simp [putB_length]; exact h)]
  congr 2
  rw [List.getElem_reverse, putB_get]
  simp [putB_length]

theorem hsum_spec (q : Nat) (h : HS) (hr : h.rest.length = 64) (hl : h.len ≤ 900000000) : Fun Tryd.prog 79 [.pointer (some ⟨q, 0, none⟩)] [kV, rdb q h.v] [] fun v H => v = .agg (bsV (hFin h)).toArray ∧ H = [] := by
  refine xenter (p := pg) Tryd.call79 Tryd.func79 fun C => ?_
  haveI := RB.of C (b := q) (l := h.v) (by simp)
  haveI : RP C kV := RP.of C (by simp)
  iterate 2 (first | refine xst ?_ | refine xar ?_ | refine xop ?_ | refine xlen ?_ | refine xld rfl ?_ | refine xsto rfl ?_ | refine xno ?_ | refine xt ?_ | refine xf ?_)
  refine xnew fun b2 => ?_
  refine xrep 0 (zeros 32 [.int .u8 0]) rfl rfl ?_
  iterate 5 (first | refine xst ?_ | refine xar ?_ | refine xop ?_ | refine xlen ?_ | refine xld rfl ?_ | refine xsto rfl ?_ | refine xno ?_ | refine xt ?_ | refine xf ?_)
  refine xld rfl ?_ (hv := partF_all rfl (by rw [HS.v_len hr]; rfl))
  refine xnew fun c => ?_
  have hone : ∀ v ∈ h.v, v.oneCell' = true := by
    intro v hv
    rcases List.mem_append.1 hv with hv | hv
    · exact wsV_one _ v hv
    · rcases List.mem_append.1 hv with hv | hv
      · exact bsV_one _ v hv
      · obtain rfl := List.mem_singleton.1 hv; rfl
  refine xsta (cs := h.v) rfl (HS.v_len hr) hone h.v (put_all (by rw [HS.v_len hr]; rfl)) (by rw [HS.v_len hr]; exact Nat.le_of_ble_eq_true rfl) ?_
  iterate 4 (first | refine xst ?_ | refine xar ?_ | refine xop ?_ | refine xlen ?_ | refine xld rfl ?_ | refine xsto rfl ?_ | refine xno ?_ | refine xt ?_ | refine xf ?_)
  refine xld rfl ?_ (hv := partF_one rfl (HS.v_at hr))
  repeat (refine xnot 18 ?_; first | refine xst ?_ | refine xar ?_ | refine xop ?_ | refine xlen ?_ | refine xld rfl ?_ | refine xsto rfl ?_ | refine xno ?_ | refine xt ?_ | refine xf ?_)
  have hcount : IntKind.u64.wrap (IntKind.u64.wrap (h.len : Int) * 8) = ((h.len * 8 : Nat) : Int) := by
    rw [u64_wrap (by omega), show ((h.len : Int) * 8) = ((h.len * 8 : Nat) : Int) by omega, u64_wrap (by omega)]
  refine xE 18 (.int .u64 ((h.len * 8 : Nat) : Int)) rfl (congrArg (Value.int .u64) hcount) ?_
  repeat (first | refine xst ?_ | refine xar ?_ | refine xop ?_ | refine xlen ?_ | refine xld rfl ?_ | refine xsto rfl ?_ | refine xno ?_ | refine xt ?_ | refine xf ?_)
  refine xbsl fun b3 => ?_
  refine xslc 0 1 1 (bsV [0x80]) rfl rfl rfl ?_
  refine xcall (write_spec c (some ⟨b3, 0, none⟩) 1 1 [0x80] h rfl hr (by simp; omega)) ?_
  rintro v H ⟨rfl, rfl⟩
  refine G.app ?_
  obtain ⟨c1, hc1⟩ : ∃ c1, hWrite h [0x80] = c1 := ⟨_, rfl⟩
  have hr1 : c1.rest.length = 64 := by rw [← hc1, hWrite_rest, hr]
  have hl1 : c1.len = h.len + 1 := by rw [← hc1, hWrite_len]; rfl
  refine xrep 0 c1.v rfl (by rw [hc1]) ?_
  iterate 4 (first | refine xst ?_ | refine xar ?_ | refine xop ?_ | refine xlen ?_ | refine xld rfl ?_ | refine xsto rfl ?_ | refine xno ?_ | refine xt ?_ | refine xf ?_)
  refine xld rfl ?_ (hv := partF_one rfl (HS.v_at hr1))
  repeat (refine xnot 23 ?_; first | refine xst ?_ | refine xar ?_ | refine xop ?_ | refine xlen ?_ | refine xld rfl ?_ | refine xsto rfl ?_ | refine xno ?_ | refine xt ?_ | refine xf ?_)
  refine xE 23 (.int .i64 ((c1.len % 64 : Nat) : Int)) rfl rfl ?_
  have hu : c1.len % 64 < 64 := Nat.mod_lt _ (by omega)
  obtain ⟨z, hz⟩ : ∃ z, (120 - c1.len % 64) % 64 = z := ⟨_, rfl⟩
  have hz64 : z < 64 := by rw [← hz]; exact Nat.mod_lt _ (by omega)
  repeat (refine xnot 25 ?_; first | refine xst ?_ | refine xar ?_ | refine xop ?_ | refine xlen ?_ | refine xld rfl ?_ | refine xsto rfl ?_ | refine xno ?_ | refine xt ?_ | refine xf ?_)
  refine xE 25 (.int .i64 ((120 - c1.len % 64 : Nat) : Int)) rfl (congrArg (Value.int .i64) (by omega)) ?_
  repeat (refine xnot 26 ?_; first | refine xst ?_ | refine xar ?_ | refine xop ?_ | refine xlen ?_ | refine xld rfl ?_ | refine xsto rfl ?_ | refine xno ?_ | refine xt ?_ | refine xf ?_)
  refine xE 26 (.int .i64 (z : Int)) rfl (congrArg (Value.int .i64) (by rw [← hz]; rfl)) ?_
  repeat (first | refine xst ?_ | refine xar ?_ | refine xop ?_ | refine xlen ?_ | refine xld rfl ?_ | refine xsto rfl ?_ | refine xno ?_ | refine xt ?_ | refine xf ?_)
  refine xmake z z rfl rfl rfl (Nat.le_refl _) (by omega) (by omega) fun b4 => ?_
  refine xreH 0 (sl 1 (some ⟨b4, 0, none⟩) z z (bsV (List.replicate z 0))) rfl (by rw [zeros_bytes]) ?_
  refine xcall (write_spec c (some ⟨b4, 0, none⟩) z z (List.replicate z 0) c1 (by simp) hr1 (by simp; omega)) ?_
  rintro v H ⟨rfl, rfl⟩
  refine G.app ?_
  obtain ⟨c2, hc2⟩ : ∃ c2, hWrite c1 (List.replicate z 0) = c2 := ⟨_, rfl⟩
  have hr2 : c2.rest.length = 64 := by rw [← hc2, hWrite_rest, hr1]
  have hl2 : c2.len = h.len + 1 + z := by rw [← hc2, hWrite_len, hl1]; simp
  refine xrep 0 c2.v rfl (by rw [hc2]) ?_
  repeat (first | refine xst ?_ | refine xar ?_ | refine xop ?_ | refine xlen ?_ | refine xld rfl ?_ | refine xsto rfl ?_ | refine xno ?_ | refine xt ?_ | refine xf ?_)
  refine xnew fun b5 => ?_
  refine xrep 0 (bsV ((putB (h.len * 8) 8).reverse.take 0) ++ zeros (8 - 0) [.int .u8 0]) rfl rfl ?_
  repeat (first | refine xst ?_ | refine xar ?_ | refine xop ?_ | refine xlen ?_ | refine xld rfl ?_ | refine xsto rfl ?_ | refine xno ?_ | refine xt ?_ | refine xf ?_)
  have htl : (putB (h.len * 8) 8).reverse.length = 8 := by simp [putB_length]
  refine G.loop (σ := Nat) (fun i => [(2, .pointer (some ⟨b2, 0, none⟩)), (3, .pointer (some ⟨c, 0, none⟩)), (4, .int .u64 ((h.len * 8 : Nat) : Int)), (7, .pointer (some ⟨b5, 0, none⟩)), (30, .int .i64 (i : Int))])
    (fun i => [pts b5 (bsV ((putB (h.len * 8) 8).reverse.take i) ++ zeros (8 - i) [.int .u8 0]), pts c c2.v, pts b2 (zeros 32 [.int .u8 0])]) (fun i => i ≤ 8) (fun i => 8 - i) 0 (Nat.zero_le _) ⟨rfl, rfl, rfl, rfl, rfl, trivial⟩ ent_pick ?_
  intro i hi
  repeat (first | refine xst ?_ | refine xar ?_ | refine xop ?_ | refine xlen ?_ | refine xld rfl ?_ | refine xsto rfl ?_ | refine xno ?_ | refine xt ?_ | refine xf ?_)
  refine xd (fun h3 => ?_) (fun h3 => ?_)
  · have hi' : i < 8 := by omega
    repeat (refine xnot 37 ?_; first | refine xst ?_ | refine xar ?_ | refine xop ?_ | refine xlen ?_ | refine xld rfl ?_ | refine xsto rfl ?_ | refine xno ?_ | refine xt ?_ | refine xf ?_)
    refine xE 37 (.int .i64 ((8 * (7 - i) : Nat) : Int)) rfl (congrArg (Value.int .i64) (by omega)) ?_
    repeat (refine xnot 39 ?_; first | refine xst ?_ | refine xar ?_ | refine xop ?_ | refine xlen ?_ | refine xld rfl ?_ | refine xsto rfl ?_ | refine xno ?_ | refine xt ?_ | refine xf ?_)
    refine xE 39 (bV (UInt8.ofNat (h.len * 8 / 2 ^ (8 * (7 - i))))) rfl (congrArg (Value.int .u8) (putB_byte (h.len * 8) (7 - i) (by omega))) ?_
    refine xix ?_
    refine xEp 40 i rfl (Nat.zero_add _) ?_
    refine xsto rfl ?_ (hm := (putF_one (by rw [List.length_append, bsV_length, List.length_take, htl, zeros_length]; simp; omega)).trans (congrArg some (show _ = bsV ((putB (h.len * 8) 8).reverse.take (i + 1)) ++ zeros (8 - (i + 1)) [.int .u8 0] by
      rw [fill_set (by rw [bsV_length, List.length_take, htl]; omega) hi', List.take_succ_eq_append_getElem (by rw [htl]; omega), bsV_append]
      congr 2
      have := tail_get (h.len * 8) i hi'
      rw [bsV_get (by rw [htl]; omega)] at this
      exact congrArg (fun v => [v]) (Option.some.inj this).symm)))
    repeat (first | refine xst ?_ | refine xar ?_ | refine xop ?_ | refine xlen ?_ | refine xld rfl ?_ | refine xsto rfl ?_ | refine xno ?_ | refine xt ?_ | refine xf ?_)
    exact G.fin (i + 1) ⟨by omega, by omega⟩ ⟨rfl, rfl, rfl, rfl, rfl, trivial⟩ ent_pick
  · obtain rfl : i = 8 := by omega
    refine xslc 0 1 8 (bsV (putB (h.len * 8) 8).reverse) rfl (by rw [List.take_of_length_le (by rw [htl]; omega)]; simp [zeros]) (by rw [bsV_length, htl]) ?_
    repeat (first | refine xst ?_ | refine xar ?_ | refine xop ?_ | refine xlen ?_ | refine xld rfl ?_ | refine xsto rfl ?_ | refine xno ?_ | refine xt ?_ | refine xf ?_)
    refine xslice 0 8 rfl rfl rfl (by omega) (by omega) ?_
    refine xE 42 (.slice (some ⟨b5, 0, none⟩) 8 8) rfl (congrArg (fun z => Value.slice z 8 8) (subA_lt (by omega))) ?_
    refine xcall (write_spec c (some ⟨b5, 0, none⟩) 8 8 (putB (h.len * 8) 8).reverse c2 htl.symm hr2 (by rw [htl]; omega)) ?_
    rintro v H ⟨rfl, rfl⟩
    refine G.app ?_
    obtain ⟨c3, hc3⟩ : ∃ c3, hWrite c2 (putB (h.len * 8) 8).reverse = c3 := ⟨_, rfl⟩
    refine xrep 0 c3.v rfl (by rw [hc3]) ?_
    have hfin : hFin h = outS c3.st.l := by
      unfold hFin; simp only [hc1, hz, hc2, hc3]
    repeat (first | refine xst ?_ | refine xar ?_ | refine xop ?_ | refine xlen ?_ | refine xld rfl ?_ | refine xsto rfl ?_ | refine xno ?_ | refine xt ?_ | refine xf ?_)
    refine xnew fun b6 => ?_
    obtain ⟨ys, hys⟩ : ∃ ys, outS c3.st.l = ys := ⟨_, rfl⟩
    have hyl : ys.length = 32 := by rw [← hys, outS_len]; rfl
    have hst : ∀ m v, m < 32 → (bsV ys)[m]? = some v → (bsV (ys.take m) ++ zeros (32 - m) [.int .u8 0]).set m v = bsV (ys.take (m + 1)) ++ zeros (32 - (m + 1)) [.int .u8 0] := by
      intro m v hm hv
      rw [fill_set (by rw [bsV_length, List.length_take, hyl]; omega) hm, List.take_succ_eq_append_getElem (by omega), bsV_append]
      rw [bsV_get (by omega)] at hv
      congr 2
      exact congrArg (fun v => [v]) (Option.some.inj hv).symm
    have hrow : ∀ m, m ≤ 32 → (bsV (ys.take m) ++ zeros (32 - m) [.int .u8 0]).length = 32 := by
      intro m hm
      rw [List.length_append, bsV_length, List.length_take, hyl, zeros_length]; simp; omega
    refine xrep 0 (bsV (ys.take (4 * 0)) ++ zeros (32 - 4 * 0) [.int .u8 0]) rfl rfl ?_
    repeat (first | refine xst ?_ | refine xar ?_ | refine xop ?_ | refine xlen ?_ | refine xld rfl ?_ | refine xsto rfl ?_ | refine xno ?_ | refine xt ?_ | refine xf ?_)
    refine G.loop (σ := Nat) (fun i => [(2, .pointer (some ⟨b2, 0, none⟩)), (9, .pointer (some ⟨b6, 0, none⟩)), (45, .agg (wsV c3.st.l).toArray), (46, .int .i64 (i : Int))])
      (fun i => [pts b6 (bsV (ys.take (4 * i)) ++ zeros (32 - 4 * i) [.int .u8 0]), pts b2 (zeros 32 [.int .u8 0])]) (fun i => i ≤ 8) (fun i => 8 - i) 0 (Nat.zero_le _) ⟨rfl, rfl, rfl, rfl, trivial⟩ ent_pick ?_
    intro i hi
    repeat (first | refine xst ?_ | refine xar ?_ | refine xop ?_ | refine xlen ?_ | refine xld rfl ?_ | refine xsto rfl ?_ | refine xno ?_ | refine xt ?_ | refine xf ?_)
    refine xd (fun h5 => ?_) (fun h5 => ?_)
    · have hi' : i < 8 := by omega
      have hi8 : i < c3.st.l.length := hi'
      have hg : ∀ j (hj : j < 4), (bsV ys)[4 * i + j]? = some (bV ((outW c3.st.l[i])[j]'(by simpa [outW] using hj))) := fun j hj => by rw [← hys]; exact outS_get hi8 hj
      repeat (first | refine xst ?_ | refine xar ?_ | refine xop ?_ | refine xlen ?_ | refine xld rfl ?_ | refine xsto rfl ?_ | refine xno ?_ | refine xt ?_ | refine xf ?_)
      refine xpart rfl i rfl hi' (partF_one rfl ((congrArg ((wsV c3.st.l)[·]?) (Nat.mul_one i)).trans (wsV_get hi8))) ?_
      repeat (refine xnot 54 ?_; first | refine xst ?_ | refine xar ?_ | refine xop ?_ | refine xlen ?_ | refine xld rfl ?_ | refine xsto rfl ?_ | refine xno ?_ | refine xt ?_ | refine xf ?_)
      refine xE 51 (.int .i64 ((4 * i : Nat) : Int)) rfl (congrArg (Value.int .i64) (by omega)) ?_
      refine xE 54 (bV (wB c3.st.l[i] 24)) rfl (congrArg (Value.int .u8) (wB_byte _ 24 (by omega))) ?_
      refine xix ?_
      refine xEp 55 (4 * i) rfl (Nat.zero_add _) ?_
      refine xsto rfl ?_ (hm := (putF_one (by rw [hrow _ (by omega)]; omega)).trans (congrArg some (hst (4 * i) _ (by omega) (hg 0 (by omega)))))
      repeat (refine xnot 61 ?_; first | refine xst ?_ | refine xar ?_ | refine xop ?_ | refine xlen ?_ | refine xld rfl ?_ | refine xsto rfl ?_ | refine xno ?_ | refine xt ?_ | refine xf ?_)
      refine xE 58 (.int .i64 ((4 * i + 1 : Nat) : Int)) rfl (congrArg (Value.int .i64) (by omega)) ?_
      refine xE 61 (bV (wB c3.st.l[i] 16)) rfl (congrArg (Value.int .u8) (wB_byte _ 16 (by omega))) ?_
      refine xix ?_
      refine xEp 62 (4 * i + 1) rfl (Nat.zero_add _) ?_
      refine xsto rfl ?_ (hm := (putF_one (by rw [hrow _ (by omega)]; omega)).trans (congrArg some (hst (4 * i + 1) _ (by omega) (hg 1 (by omega)))))
      repeat (refine xnot 68 ?_; first | refine xst ?_ | refine xar ?_ | refine xop ?_ | refine xlen ?_ | refine xld rfl ?_ | refine xsto rfl ?_ | refine xno ?_ | refine xt ?_ | refine xf ?_)
      refine xE 65 (.int .i64 ((4 * i + 2 : Nat) : Int)) rfl (congrArg (Value.int .i64) (by omega)) ?_
      refine xE 68 (bV (wB c3.st.l[i] 8)) rfl (congrArg (Value.int .u8) (wB_byte _ 8 (by omega))) ?_
      refine xix ?_
      refine xEp 69 (4 * i + 2) rfl (Nat.zero_add _) ?_
      refine xsto rfl ?_ (hm := (putF_one (by rw [hrow _ (by omega)]; omega)).trans (congrArg some (hst (4 * i + 2) _ (by omega) (hg 2 (by omega)))))
      repeat (refine xnot 74 ?_; first | refine xst ?_ | refine xar ?_ | refine xop ?_ | refine xlen ?_ | refine xld rfl ?_ | refine xsto rfl ?_ | refine xno ?_ | refine xt ?_ | refine xf ?_)
      refine xE 72 (.int .i64 ((4 * i + 3 : Nat) : Int)) rfl (congrArg (Value.int .i64) (by omega)) ?_
      refine xE 74 (bV (wB c3.st.l[i] 0)) rfl (congrArg (Value.int .u8) (wB_byte0 _)) ?_
      refine xix ?_
      refine xEp 75 (4 * i + 3) rfl (Nat.zero_add _) ?_
      refine xsto rfl ?_ (hm := (putF_one (by rw [hrow _ (by omega)]; omega)).trans (congrArg some (hst (4 * i + 3) _ (by omega) (hg 3 (by omega)))))
      repeat (first | refine xst ?_ | refine xar ?_ | refine xop ?_ | refine xlen ?_ | refine xld rfl ?_ | refine xsto rfl ?_ | refine xno ?_ | refine xt ?_ | refine xf ?_)
      exact G.fin (i + 1) ⟨by omega, by omega⟩ ⟨rfl, rfl, rfl, rfl, trivial⟩ ent_pick
    · obtain rfl : i = 8 := by omega
      refine xrep 0 (bsV ys) rfl (by rw [List.take_of_length_le (by omega)]; simp [zeros]) ?_
      have hbl : (bsV ys).length = 32 := by rw [bsV_length, hyl]
      repeat (first | refine xst ?_ | refine xar ?_ | refine xop ?_ | refine xlen ?_ | refine xld rfl ?_ | refine xsto rfl ?_ | refine xno ?_ | refine xt ?_ | refine xf ?_)
      refine xld rfl ?_ (hv := partF_all rfl hbl)
      refine xsta (cs := bsV ys) rfl hbl (bsV_one ys) (bsV ys) (put_all (by rw [zeros_length, hbl]; rfl)) (by rw [zeros_length, hbl]; exact Nat.le_of_ble_eq_true rfl) ?_
      refine xst ?_
      refine xretm [] rfl (.c .nil rfl rfl (partF_all rfl hbl)) ?_
      rw [hfin, hys]
      exact ⟨rfl, rfl⟩

def shaF (bs : List UInt8) : List UInt8 := hFin (hWrite newH bs)
theorem sum_spec (a : Option Addr) (n cap : Nat) (bs : List UInt8) (hn : n = bs.length) (hl : n ≤ 900000000) : Fun Tryd.prog 51 [.slice a n cap] [kV, iniV, slR 1 a n cap (bsV bs)] [] fun v H => v = .agg (bsV (shaF bs)).toArray ∧ H = [] := by
  subst hn
  refine xenter (p := pg) Tryd.call51 Tryd.func51 fun C => ?_
  haveI : RP C kV := RP.of C (by simp)
  haveI : RP C iniV := RP.of C (by simp)
  haveI := RP.slR (RP.of C (X := slR 1 a bs.length cap (bsV bs)) (by simp))
  iterate 2 (first | refine xst ?_ | refine xar ?_ | refine xop ?_ | refine xlen ?_ | refine xld rfl ?_ | refine xsto rfl ?_ | refine xno ?_ | refine xt ?_ | refine xf ?_)
  refine xnew fun b2 => ?_
  refine xrep 0 (zeros 32 [.int .u8 0]) rfl rfl ?_
  repeat (first | refine xst ?_ | refine xar ?_ | refine xop ?_ | refine xlen ?_ | refine xld rfl ?_ | refine xsto rfl ?_ | refine xno ?_ | refine xt ?_ | refine xf ?_)
  refine xcall newH_spec ?_
  rintro v H ⟨q, rfl, rfl⟩
  refine G.app ?_
  repeat (first | refine xst ?_ | refine xar ?_ | refine xop ?_ | refine xlen ?_ | refine xld rfl ?_ | refine xsto rfl ?_ | refine xno ?_ | refine xt ?_ | refine xf ?_)
  refine xcall (write_spec q a bs.length cap bs newH rfl rfl (by show 0 + _ ≤ _; omega)) ?_
  rintro v H ⟨rfl, rfl⟩
  refine G.app ?_
  obtain ⟨u, hu⟩ : ∃ u, hWrite newH bs = u := ⟨_, rfl⟩
  have hur : u.rest.length = 64 := by rw [← hu, hWrite_rest]; rfl
  have hul : u.len = bs.length := by rw [← hu, hWrite_len]; show 0 + _ = _; omega
  refine xrep 0 u.v rfl (by rw [hu]) ?_
  repeat (first | refine xst ?_ | refine xar ?_ | refine xop ?_ | refine xlen ?_ | refine xld rfl ?_ | refine xsto rfl ?_ | refine xno ?_ | refine xt ?_ | refine xf ?_)
  refine xcall (hsum_spec q u hur (by omega)) ?_
  rintro v H ⟨rfl, rfl⟩
  refine G.app ?_
  have hbl : (bsV (hFin u)).length = 32 := by rw [bsV_length]; unfold hFin; rw [outS_len]; rfl
  refine xsta (cs := bsV (hFin u)) rfl hbl (bsV_one _) (bsV (hFin u)) (put_all (by rw [zeros_length, hbl]; rfl)) (by rw [zeros_length, hbl]; exact Nat.le_of_ble_eq_true rfl) ?_
  refine xst ?_
  refine xretm [] rfl (.c .nil rfl rfl (partF_all rfl hbl)) ?_
  unfold shaF
  rw [hu]
  exact ⟨rfl, rfl⟩
theorem shaF_len (bs : List UInt8) : (shaF bs).length = 32 := by unfold shaF hFin; rw [outS_len]; rfl
end Go.Proofs.YthlaacnjgdmakaaDoor

/- image: manifests. -/
namespace Go.Proofs.YthlaacnjgdmakaaDoor
open Go.W

structure Man where
  part : Int
  ver : UInt32
  size : Int
  sum : List UInt8
def Man.v (m : Man) : List Value := .int .i64 m.part :: wV m.ver :: .int .i64 m.size :: bsV m.sum
def Man.ok (m : Man) : Bool := decide (0 ≤ m.part ∧ m.part < 8 ∧ 4 ≤ m.size ∧ m.size ≤ 512 ∧ m.size.tmod 4 = 0)
theorem Man.v_len {m : Man} (h : m.sum.length = 32) : m.v.length = 35 := by unfold Man.v; simp [bsV, h]
theorem Man.v_one (m : Man) : ∀ v ∈ m.v, v.oneCell' = true := by
  intro v hv
  unfold Man.v at hv
  simp only [List.mem_cons] at hv
  rcases hv with rfl | rfl | rfl | hv
  · rfl
  · rfl
  · rfl
  · exact bsV_one _ v hv

theorem valid_spec (m : Man) (_hs : m.sum.length = 32) : Fun Tryd.prog 40 [.agg m.v.toArray] [] [] fun v H => v = .bool m.ok ∧ H = [] := by
  refine xenter (p := pg) Tryd.call40 Tryd.func40 fun C => ?_
  repeat (first | refine xst ?_ | refine xar ?_ | refine xop ?_ | refine xlen ?_ | refine xld rfl ?_ | refine xsto rfl ?_ | refine xno ?_ | refine xt ?_ | refine xf ?_)
  refine xnew fun b => ?_
  refine xrep 0 m.v rfl rfl ?_
  repeat (first | refine xst ?_ | refine xar ?_ | refine xop ?_ | refine xlen ?_ | refine xld rfl ?_ | refine xsto rfl ?_ | refine xno ?_ | refine xt ?_ | refine xf ?_)
  refine xbc 6 (fun h1 => ?_) (fun h1 => ?_)
  · repeat (first | refine xst ?_ | refine xar ?_ | refine xop ?_ | refine xlen ?_ | refine xld rfl ?_ | refine xsto rfl ?_ | refine xno ?_ | refine xt ?_ | refine xf ?_)
    refine xbc 11 (fun h2 => ?_) (fun h2 => ?_)
    · repeat (first | refine xst ?_ | refine xar ?_ | refine xop ?_ | refine xlen ?_ | refine xld rfl ?_ | refine xsto rfl ?_ | refine xno ?_ | refine xt ?_ | refine xf ?_)
      refine xbc 16 (fun h3 => ?_) (fun h3 => ?_)
      · repeat (first | refine xst ?_ | refine xar ?_ | refine xop ?_ | refine xlen ?_ | refine xld rfl ?_ | refine xsto rfl ?_ | refine xno ?_ | refine xt ?_ | refine xf ?_)
        refine xbc 21 (fun h4 => ?_) (fun h4 => ?_)
        · repeat (first | refine xst ?_ | refine xar ?_ | refine xop ?_ | refine xlen ?_ | refine xld rfl ?_ | refine xsto rfl ?_ | refine xno ?_ | refine xt ?_ | refine xf ?_)
          refine xret [] ⟨?_, rfl⟩
          simp only [resV]; congr 1; unfold Man.ok; rw [Bool.eq_iff_iff]; simp only [decide_eq_true_eq]
          exact ⟨fun h => ⟨h1, h2, h3, h4, h⟩, fun h => h.2.2.2.2⟩
        · repeat (first | refine xst ?_ | refine xar ?_ | refine xop ?_ | refine xlen ?_ | refine xld rfl ?_ | refine xsto rfl ?_ | refine xno ?_ | refine xt ?_ | refine xf ?_)
          refine xret [] ⟨?_, rfl⟩
          simp only [resV]; congr 1; unfold Man.ok; rw [decide_eq_false (by omega)]
      · repeat (first | refine xst ?_ | refine xar ?_ | refine xop ?_ | refine xlen ?_ | refine xld rfl ?_ | refine xsto rfl ?_ | refine xno ?_ | refine xt ?_ | refine xf ?_)
        refine xret [] ⟨?_, rfl⟩
        simp only [resV]; congr 1; unfold Man.ok; rw [decide_eq_false (by omega)]
    · repeat (first | refine xst ?_ | refine xar ?_ | refine xop ?_ | refine xlen ?_ | refine xld rfl ?_ | refine xsto rfl ?_ | refine xno ?_ | refine xt ?_ | refine xf ?_)
      refine xret [] ⟨?_, rfl⟩
      simp only [resV]; congr 1; unfold Man.ok; rw [decide_eq_false (by omega)]
  · repeat (first | refine xst ?_ | refine xar ?_ | refine xop ?_ | refine xlen ?_ | refine xld rfl ?_ | refine xsto rfl ?_ | refine xno ?_ | refine xt ?_ | refine xf ?_)
    refine xret [] ⟨?_, rfl⟩
    simp only [resV]; congr 1; unfold Man.ok; rw [decide_eq_false (by omega)]

theorem of_spec (part : Int) (ver : UInt32) (a : Option Addr) (n cap : Nat) (bs : List UInt8) (hn : n = bs.length) (hl : n ≤ 900000000) : Fun Tryd.prog 29 [.int .i64 part, wV ver, .slice a n cap] [kV, iniV, slR 1 a n cap (bsV bs)] []
    fun v H => v = .agg (Man.v ⟨part, ver, bs.length, shaF bs⟩).toArray ∧ H = [] := by
  subst hn
  refine xenter (p := pg) Tryd.call29 Tryd.func29 fun C => ?_
  haveI : RP C kV := RP.of C (by simp)
  haveI : RP C iniV := RP.of C (by simp)
  haveI := RP.slR (RP.of C (X := slR 1 a bs.length cap (bsV bs)) (by simp))
  iterate 2 (first | refine xst ?_ | refine xar ?_ | refine xop ?_ | refine xlen ?_ | refine xld rfl ?_ | refine xsto rfl ?_ | refine xno ?_ | refine xt ?_ | refine xf ?_)
  refine xnew fun b2 => ?_
  refine xrep 0 ([.int .i64 0, .int .u32 0, .int .i64 0] ++ zeros 32 [.int .u8 0]) rfl rfl ?_
  repeat (first | refine xst ?_ | refine xar ?_ | refine xop ?_ | refine xlen ?_ | refine xld rfl ?_ | refine xsto rfl ?_ | refine xno ?_ | refine xt ?_ | refine xf ?_)
  refine xcall (sum_spec a bs.length cap bs rfl hl) ?_
  rintro v H ⟨rfl, rfl⟩
  refine G.app ?_
  obtain ⟨s, hs⟩ : ∃ s, shaF bs = s := ⟨_, rfl⟩
  have hsl : s.length = 32 := by rw [← hs, shaF_len]
  refine xE 12 (.agg (bsV s).toArray) rfl (by rw [hs]) ?_
  refine xbuild (Man.v ⟨part, ver, bs.length, s⟩) rfl (fillF_cons rfl rfl (by exact Nat.le_of_ble_eq_true rfl) (fillF_cons rfl rfl (by exact Nat.le_of_ble_eq_true rfl) (fillF_cons rfl rfl (by exact Nat.le_of_ble_eq_true rfl) (fillF_cons rfl (by show (bsV s).length = 32; rw [bsV_length, hsl]) (by exact Nat.le_of_ble_eq_true rfl)
    (congrArg some (List.append_nil _)))))) ?_
  have hml := Man.v_len (m := ⟨part, ver, bs.length, s⟩) hsl
  refine xsta (cs := Man.v ⟨part, ver, bs.length, s⟩) rfl hml (Man.v_one _) (Man.v ⟨part, ver, bs.length, s⟩) (put_all (by rw [hml]; rfl)) (by rw [hml]; exact Nat.le_of_ble_eq_true rfl) ?_
  refine xst ?_
  refine xretm [] rfl (.c .nil rfl rfl (partF_all rfl hml)) ?_
  rw [hs]
  exact ⟨rfl, rfl⟩
end Go.Proofs.YthlaacnjgdmakaaDoor
