/- Part of the proof: LKb, LKc, LKd, LKe -/
import Derived.Test.YtdalmiacjicgpaaGreatDoorK5
import Derived.Test.YtdalmiacjicgpaaGreatDoorK3
/- disk. -/
namespace Go.Proofs.YtdalmiacjicgpaaGreatDoor
open Go.W

/-! ## A disk, plain -/
abbrev Sec := { b : List UInt8 // b.length = 64 }
def Sec.zero : Sec := ⟨List.replicate 64 0, by simp⟩
structure Dk where
  sec : List Sec
  pend : List (Nat × Sec)
  off : Bool
  armed : Bool
  left : Int
  surv : List Bool
def Dk.upd (k : Nat) (c : Sec) (w : Nat × Sec) : Sec := if w.1 = k then w.2 else c
def Dk.get (S : Dk) (k : Nat) : Sec := S.pend.foldl (Dk.upd k) (S.sec.getD k Sec.zero)
def Dk.has (S : Dk) (at_ : Int) : Bool := decide (0 ≤ at_) && decide (at_ < (S.sec.length : Int))
def Dk.read (S : Dk) (at_ : Int) : Int × List UInt8 := if S.has at_ = false then (4, []) else if S.off = true then (9, []) else (0, (S.get at_.toNat).1)
def apS (sv : List Bool) : Nat → List (Nat × Sec) → List Sec → List Sec
  | _, [], s => s
  | i, w :: r, s => apS sv (i + 1) r (if sv.getD i false = true then s.set w.1 w.2 else s)
def Dk.crash (S : Dk) (sv : List Bool) : Dk := if S.off = true then S else ⟨apS sv 0 S.pend S.sec, [], true, false, 0, []⟩
def putS (s : List Sec) (w : Nat × Sec) : List Sec := s.set w.1 w.2
def Dk.flushed (S : Dk) : Dk := { S with sec := S.pend.foldl putS S.sec, pend := [] }
def Dk.pow (S : Dk) : Bool × Dk := if S.off = true then (false, S) else if S.armed = false then (true, S) else if S.left = 0 then (false, S.crash S.surv) else (true, { S with left := IntKind.i64.wrap (S.left - 1) })
def Dk.write (S : Dk) (at_ : Int) (b : List UInt8) : Int × Dk :=
  if S.has at_ = false then (4, S) else if h : b.length = 64 then (if S.pow.1 = true then (0, { S.pow.2 with pend := S.pow.2.pend ++ [(at_.toNat, ⟨b, h⟩)] }) else (9, S.pow.2)) else (1, S)
def Dk.flush (S : Dk) : Int × Dk := if S.pow.1 = true then (0, S.pow.2.flushed) else (9, S.pow.2)
def Dk.power (S : Dk) : Dk := { S with pend := [], off := false, armed := false, left := 0, surv := [] }
def Dk.arm (S : Dk) (n : Int) (sv : List Bool) : Dk := if S.off = true then S else if n < 0 then { S with armed := false, left := 0, surv := [] } else { S with armed := true, left := n, surv := sv }
def Dk.image (S : Dk) : List UInt8 := S.sec.flatMap (·.1)
def Dk.new (n : Nat) : Dk := ⟨List.replicate n Sec.zero, [], false, false, 0, []⟩
structure Dk.ok (S : Dk) : Prop where
  few : S.sec.length ≤ 256
  pend : ∀ w ∈ S.pend, w.1 < S.sec.length

/-! ## A disk in memory -/
def secE (s : Sec) : List Value := bsV s.1
def secV (l : List Sec) : List Value := l.flatMap secE
def wrV (w : Nat × Sec) : List Value := .int .i64 (w.1 : Int) :: secE w.2
def penV (l : List (Nat × Sec)) : List Value := l.flatMap wrV
def svV (l : List Bool) : List Value := l.map .bool
theorem secE_len (s : Sec) : (secE s).length = 64 := by rw [secE, bsV_length, s.2]
theorem wrV_len (w : Nat × Sec) : (wrV w).length = 65 := by rw [wrV, List.length_cons, secE_len]
theorem secV_len (l : List Sec) : (secV l).length = l.length * 64 := flat_length secE_len l
theorem penV_len (l : List (Nat × Sec)) : (penV l).length = l.length * 65 := flat_length wrV_len l
theorem svV_len (l : List Bool) : (svV l).length = l.length := by simp [svV]
theorem svV_get {l : List Bool} {k : Nat} (h : k < l.length) : (svV l)[k]? = some (.bool (l.getD k false)) := by simp [svV, h]
theorem secE_one (s : Sec) : ∀ v ∈ secE s, v.oneCell' = true := bsV_one _
theorem wrV_one (w : Nat × Sec) : ∀ v ∈ wrV w, v.oneCell' = true := by
  intro v hv
  rcases List.mem_cons.1 hv with rfl | hv
  · rfl
  · exact secE_one _ v hv
theorem svV_one (l : List Bool) : ∀ v ∈ svV l, v.oneCell' = true := by
  intro v hv; obtain ⟨b, _, rfl⟩ := List.mem_map.1 hv; rfl
theorem secV_get {l : List Sec} {k : Nat} (h : k < l.length) : ((secV l).drop (k * 64)).take 64 = secE l[k] := flat_elem secE_len l k h
theorem penV_get {l : List (Nat × Sec)} {k : Nat} (h : k < l.length) : ((penV l).drop (k * 65)).take 65 = wrV l[k] := flat_elem wrV_len l k h
theorem secV_set (l : List Sec) (k : Nat) (h : k < l.length) (s : Sec) : (secV l).take (k * 64) ++ secE s ++ (secV l).drop (k * 64 + (secE s).length) = secV (l.set k s) := by
  rw [secE_len]; exact W.flat_set secE_len l k h s
theorem wr_part (w : Nat × Sec) {i : TI} (ha : i.agg = true) (hs : i.size = 64) : partF i (wrV w) (0 + 1) = some (.agg (secE w.2).toArray) := by
  rw [partF_agg ha (by rw [wrV_len, hs]; decide), hs, wrV, Nat.zero_add, List.drop_succ_cons, List.drop_zero, List.take_of_length_le (by rw [secE_len]; exact Nat.le_refl _)]
def dkC (S : Dk) (a1 : Option Addr) (c1 : Nat) (a2 : Option Addr) (c2 : Nat) (a3 : Option Addr) (c3 : Nat) : List Value :=
  [.slice a1 S.sec.length c1, .slice a2 S.pend.length c2, .bool S.off, .bool S.armed, .int .i64 S.left, .slice a3 S.surv.length c3]
def dkL (d : Nat) (S : Dk) (a1 : Option Addr) (c1 : Nat) (a2 : Option Addr) (c2 : Nat) (a3 : Option Addr) (c3 : Nat) : List HProp :=
  [pts d (dkC S a1 c1 a2 c2 a3 c3), sl 64 a1 S.sec.length c1 (secV S.sec), sl 65 a2 S.pend.length c2 (penV S.pend), sl 1 a3 S.surv.length c3 (svV S.surv)]
def diskH (d : Nat) (S : Dk) : HProp := exP fun a1 : Option Addr => exP fun c1 : Nat => exP fun a2 : Option Addr => exP fun c2 : Nat => exP fun a3 : Option Addr => exP fun c3 : Nat => starP (dkL d S a1 c1 a2 c2 a3 c3)
theorem disk_fold (d : Nat) (S : Dk) (a1 : Option Addr) (c1 : Nat) (a2 : Option Addr) (c2 : Nat) (a3 : Option Addr) (c3 : Nat) (w : World) (F : Foot) (h : Sat (dkL d S a1 c1 a2 c2 a3 c3) w F) : (diskH d S).holds w F := ⟨a1, c1, a2, c2, a3, c3, h⟩
section
variable {fn : Func} {rd : List HProp} {post : Post} {C : Ctx pg fn rd post} {K : List It} {L : Env} {H : List HProp}
theorem G.disk (d : Nat) {S : Dk} {R : List HProp} [pk : Rem H (diskH d S) R]
    (k : ∀ a1 c1 a2 c2 a3 c3, G C K L (pts d (dkC S a1 c1 a2 c2 a3 c3) :: sl 64 a1 S.sec.length c1 (secV S.sec) :: sl 65 a2 S.pend.length c2 (penV S.pend) :: sl 1 a3 S.surv.length c3 (svV S.surv) :: R)) : G C K L H := by
  refine fun a w F ha hs hf => ?_
  obtain ⟨F1, F2, ⟨a1, c1, a2, c2, a3, c3, h⟩, h2, hd, h3, h4⟩ := pk.ent w F hs
  exact k a1 c1 a2 c2 a3 c3 a w F ha (Sat.append.2 ⟨F1, F2, h, h2, hd, h3, h4⟩ : Sat (dkL d S a1 c1 a2 c2 a3 c3 ++ R) w F) hf
theorem disk_rd {d : Nat} {S : Dk} (h : RP C (diskH d S)) : ∃ a1 c1 a2 c2 a3 c3, RB C d (dkC S a1 c1 a2 c2 a3 c3) ∧ RS C 64 a1 S.sec.length c1 (secV S.sec) ∧ RS C 65 a2 S.pend.length c2 (penV S.pend) ∧ RS C 1 a3 S.surv.length c3 (svV S.surv) := by
  obtain ⟨a1, h⟩ := RP.ex (f := fun a1 : Option Addr => exP fun c1 : Nat => exP fun a2 : Option Addr => exP fun c2 : Nat => exP fun a3 : Option Addr => exP fun c3 : Nat => starP (dkL d S a1 c1 a2 c2 a3 c3)) h
  obtain ⟨c1, h⟩ := h.ex
  obtain ⟨a2, h⟩ := h.ex
  obtain ⟨c2, h⟩ := h.ex
  obtain ⟨a3, h⟩ := h.ex
  obtain ⟨c3, h⟩ := h.ex
  have h := h.star
  exact ⟨a1, c1, a2, c2, a3, c3, (h _ (by simp [dkL])).pts, (h _ (by simp [dkL])).sl, (h _ (by simp [dkL])).sl, (h _ (by simp [dkL])).sl⟩
end

theorem dnew_spec (n : Nat) (h1 : 1 ≤ n) (h2 : n ≤ 256) : Fun Tryz.prog 31 [.int .i64 (n : Int)] [] [] fun v H => ∃ d : Nat, v = .tuple #[.pointer (some ⟨d, 0, none⟩), .int .i64 0] ∧ H = [diskH d (Dk.new n)] := by
  refine xenter (p := pg) Tryz.call31 Tryz.func31 fun C => ?_
  repeat (refine xnot 5 ?_; first | refine xst ?_ | refine xar ?_ | refine xop ?_ | refine xlen ?_ | refine xld rfl ?_ | refine xsto rfl ?_ | refine xno ?_ | refine xt ?_ | refine xf ?_ | refine xnu ?_)
  refine xE 5 (.bool false) rfl (congrArg Value.bool (decide_eq_false (by omega))) ?_
  repeat (refine xnot 8 ?_; first | refine xst ?_ | refine xar ?_ | refine xop ?_ | refine xlen ?_ | refine xld rfl ?_ | refine xsto rfl ?_ | refine xno ?_ | refine xt ?_ | refine xf ?_ | refine xnu ?_)
  refine xE 8 (.bool false) rfl (congrArg Value.bool (decide_eq_false (by omega))) ?_
  repeat (first | refine xst ?_ | refine xar ?_ | refine xop ?_ | refine xlen ?_ | refine xld rfl ?_ | refine xsto rfl ?_ | refine xno ?_ | refine xt ?_ | refine xf ?_ | refine xnu ?_)
  refine xmake n n rfl rfl rfl (Nat.le_refl _) (by show n * 64 ≤ _; omega) (by omega) fun b => ?_
  have hz : zeros n (List.replicate 64 (Value.int .u8 0)) = secV (List.replicate n Sec.zero) := by
    rw [zeros_eq, secV, List.flatMap_replicate]; rfl
  refine xreH 0 (sl 64 (some ⟨b, 0, none⟩) n n (secV (List.replicate n Sec.zero))) rfl (congrArg (sl 64 (some ⟨b, 0, none⟩) n n) hz) ?_
  refine G.sln 65 ?_
  refine G.sln 1 ?_
  repeat (first | refine xst ?_ | refine xar ?_ | refine xop ?_ | refine xlen ?_ | refine xld rfl ?_ | refine xsto rfl ?_ | refine xno ?_ | refine xt ?_ | refine xf ?_ | refine xnu ?_)
  refine xnew fun d => ?_
  refine xrep 0 (dkC (Dk.new n) (some ⟨b, 0, none⟩) n none 0 none 0) rfl (by unfold dkC Dk.new; simp) ?_
  refine xreH 3 (sl 64 (some ⟨b, 0, none⟩) (Dk.new n).sec.length n (secV (Dk.new n).sec)) rfl (by unfold Dk.new; simp) ?_
  repeat (first | refine xst ?_ | refine xar ?_ | refine xop ?_ | refine xlen ?_ | refine xld rfl ?_ | refine xsto rfl ?_ | refine xno ?_ | refine xt ?_ | refine xf ?_ | refine xnu ?_)
  refine xfold (diskH d (Dk.new n)) [1, 0, 1, 0] rfl (disk_fold d (Dk.new n) (some ⟨b, 0, none⟩) n none 0 none 0) ?_
  refine xretp [0] ?_
  exact ⟨d, rfl, rfl⟩

theorem dsize_spec (d : Nat) (S : Dk) : Fun Tryz.prog 71 [.pointer (some ⟨d, 0, none⟩)] [diskH d S] [] fun v H => v = .int .i64 (S.sec.length : Int) ∧ H = [] := by
  refine xenter (p := pg) Tryz.call71 Tryz.func71 fun C => ?_
  obtain ⟨a1, c1, a2, c2, a3, c3, hb, h64, h65, h1⟩ := disk_rd (RP.of C (X := diskH d S) (by simp))
  repeat (first | refine xst ?_ | refine xar ?_ | refine xop ?_ | refine xlen ?_ | refine xld rfl ?_ | refine xsto rfl ?_ | refine xno ?_ | refine xt ?_ | refine xf ?_ | refine xnu ?_)
  exact xret [] ⟨rfl, rfl⟩
theorem has_spec' (d : Nat) (S : Dk) (at_ : Int) : Fun Tryz.prog 157 [.pointer (some ⟨d, 0, none⟩), .int .i64 at_] [diskH d S] [] fun v H => v = .bool (S.has at_) ∧ H = [] := by
  refine xenter (p := pg) Tryz.call157 Tryz.func157 fun C => ?_
  obtain ⟨a1, c1, a2, c2, a3, c3, hb, h64, h65, h1⟩ := disk_rd (RP.of C (X := diskH d S) (by simp))
  repeat (refine xnot 6 ?_; first | refine xst ?_ | refine xar ?_ | refine xop ?_ | refine xlen ?_ | refine xld rfl ?_ | refine xsto rfl ?_ | refine xno ?_ | refine xt ?_ | refine xf ?_ | refine xnu ?_)
  by_cases h : 0 ≤ at_
  · refine xE 6 (.bool true) rfl (congrArg Value.bool (decide_eq_true h)) ?_
    repeat (first | refine xst ?_ | refine xar ?_ | refine xop ?_ | refine xlen ?_ | refine xld rfl ?_ | refine xsto rfl ?_ | refine xno ?_ | refine xt ?_ | refine xf ?_ | refine xnu ?_)
    refine xret [] ⟨?_, rfl⟩
    unfold Dk.has; rw [decide_eq_true h]; rfl
  · refine xE 6 (.bool false) rfl (congrArg Value.bool (decide_eq_false h)) ?_
    repeat (first | refine xst ?_ | refine xar ?_ | refine xop ?_ | refine xlen ?_ | refine xld rfl ?_ | refine xsto rfl ?_ | refine xno ?_ | refine xt ?_ | refine xf ?_ | refine xnu ?_)
    refine xret [] ⟨?_, rfl⟩
    unfold Dk.has; rw [decide_eq_false h]; rfl

theorem dread_spec (d : Nat) (S : Dk) (at_ : Int) (hp : S.pend.length ≤ 1000000) : Fun Tryz.prog 123 [.pointer (some ⟨d, 0, none⟩), .int .i64 at_] [diskH d S] []
    fun v H => ∃ a cap, v = .tuple #[.slice a (S.read at_).2.length cap, .int .i64 (S.read at_).1] ∧ H = [sl 1 a (S.read at_).2.length cap (bsV (S.read at_).2)] := by
  refine xenter (p := pg) Tryz.call123 Tryz.func123 fun C => ?_
  haveI : RP C (diskH d S) := RP.of C (by simp)
  obtain ⟨a1, c1, a2, c2, a3, c3, hb, h64, h65, h1⟩ := disk_rd (RP.of C (X := diskH d S) (by simp))
  repeat (first | refine xst ?_ | refine xar ?_ | refine xop ?_ | refine xlen ?_ | refine xld rfl ?_ | refine xsto rfl ?_ | refine xno ?_ | refine xt ?_ | refine xf ?_ | refine xnu ?_)
  refine xcall (has_spec' d S at_) ?_
  rintro v H ⟨rfl, rfl⟩
  refine G.app ?_
  cases hh : S.has at_ with
  | false =>
    repeat (first | refine xst ?_ | refine xar ?_ | refine xop ?_ | refine xlen ?_ | refine xld rfl ?_ | refine xsto rfl ?_ | refine xno ?_ | refine xt ?_ | refine xf ?_ | refine xnu ?_)
    refine G.sln 1 ?_
    refine xretp [0] ?_
    have e : S.read at_ = (4, []) := by unfold Dk.read; rw [if_pos hh]
    rw [e]; exact ⟨none, 0, rfl, rfl⟩
  | true =>
    repeat (first | refine xst ?_ | refine xar ?_ | refine xop ?_ | refine xlen ?_ | refine xld rfl ?_ | refine xsto rfl ?_ | refine xno ?_ | refine xt ?_ | refine xf ?_ | refine xnu ?_)
    refine xb (fun ho => ?_) (fun ho => ?_)
    · repeat (first | refine xst ?_ | refine xar ?_ | refine xop ?_ | refine xlen ?_ | refine xld rfl ?_ | refine xsto rfl ?_ | refine xno ?_ | refine xt ?_ | refine xf ?_ | refine xnu ?_)
      refine G.sln 1 ?_
      refine xretp [0] ?_
      have e : S.read at_ = (9, []) := by unfold Dk.read; rw [if_neg (by rw [hh]; decide), if_pos ho]
      rw [e]; exact ⟨none, 0, rfl, rfl⟩
    · have e : S.read at_ = (0, (S.get at_.toNat).1) := by unfold Dk.read; rw [if_neg (by rw [hh]; decide), if_neg (by rw [ho]; decide)]
      unfold Dk.has at hh
      rw [Bool.and_eq_true, decide_eq_true_eq, decide_eq_true_eq] at hh
      obtain ⟨k, rfl⟩ : ∃ k : Nat, at_ = k := ⟨at_.toNat, by omega⟩
      have hk : k < S.sec.length := by omega
      obtain ⟨sb, so, rfl, hsb⟩ := h64.some (by omega)
      have hg := secV_get hk
      have hgd : S.sec.getD k Sec.zero = S.sec[k] := by simp [hk]
      have hget : S.get k = S.pend.foldl (Dk.upd k) S.sec[k] := by unfold Dk.get; rw [hgd]
      generalize S.sec[k] = s0 at hg hget
      repeat (first | refine xst ?_ | refine xar ?_ | refine xop ?_ | refine xlen ?_ | refine xld rfl ?_ | refine xsto rfl ?_ | refine xno ?_ | refine xt ?_ | refine xf ?_ | refine xnu ?_)
      refine xix ?_ (hk := hk)
      refine xldla rfl (k * 64) (secE s0) rfl hg (by rw [secV_len]; show k * 64 + 64 ≤ _; omega) ?_
      refine xnew fun p6 => ?_
      refine xsta (cs := secE s0) rfl (secE_len s0) (secE_one s0) (secE s0) (put_all (by rw [secE_len]; rfl)) (by rw [secE_len]; exact Nat.le_of_ble_eq_true rfl) ?_
      repeat (first | refine xst ?_ | refine xar ?_ | refine xop ?_ | refine xlen ?_ | refine xld rfl ?_ | refine xsto rfl ?_ | refine xno ?_ | refine xt ?_ | refine xf ?_ | refine xnu ?_)
      refine G.loop (σ := Nat) (fun i => [(0, .pointer (some ⟨d, 0, none⟩)), (1, .int .i64 (k : Int)), (6, .pointer (some ⟨p6, 0, none⟩)), (27, .slice a2 S.pend.length c2), (28, .int .i64 (S.pend.length : Int)), (29, .int .i64 (i : Int))]) (fun i => [pts p6 (secE ((S.pend.take i).foldl (Dk.upd k) s0))]) (fun i => i ≤ S.pend.length) (fun i => S.pend.length - i) 0 (Nat.zero_le _) (by repeat (first | exact trivial | refine ⟨rfl, ?_⟩)) (by first | exact Ent.refl _ | exact ent_pick) ?_
      rintro i hI
      have hI : i ≤ S.pend.length := hI
      show G C _ [(0, .pointer (some ⟨d, 0, none⟩)), (1, .int .i64 (k : Int)), (6, .pointer (some ⟨p6, 0, none⟩)), (27, .slice a2 S.pend.length c2), (28, .int .i64 (S.pend.length : Int)), (29, .int .i64 (i : Int))] [pts p6 (secE ((S.pend.take i).foldl (Dk.upd k) s0))]
      repeat (first | refine xst ?_ | refine xar ?_ | refine xop ?_ | refine xlen ?_ | refine xld rfl ?_ | refine xsto rfl ?_ | refine xno ?_ | refine xt ?_ | refine xf ?_ | refine xnu ?_)
      refine xd (q := (i : Int) < (S.pend.length : Int)) (fun h => ?_) (fun h => ?_)
      · have h : i < S.pend.length := by omega
        obtain ⟨pb, po, rfl, hpb⟩ := h65.some (by omega)
        have hg := penV_get h
        have hst : (S.pend.take (i + 1)).foldl (Dk.upd k) s0 = Dk.upd k ((S.pend.take i).foldl (Dk.upd k) s0) S.pend[i] := by rw [List.take_succ_eq_append_getElem h, List.foldl_append]; rfl
        generalize S.pend[i] = w at hg hst
        generalize hc : (S.pend.take i).foldl (Dk.upd k) s0 = c at hst
        repeat (first | refine xst ?_ | refine xar ?_ | refine xop ?_ | refine xlen ?_ | refine xld rfl ?_ | refine xsto rfl ?_ | refine xno ?_ | refine xt ?_ | refine xf ?_ | refine xnu ?_)
        refine xix ?_ (hk := h)
        refine xldla rfl (i * 65) (wrV w) rfl hg (by rw [penV_len]; show i * 65 + 65 ≤ _; omega) ?_
        refine xnew fun p8 => ?_
        refine xsta (cs := wrV w) rfl (wrV_len w) (wrV_one w) (wrV w) (put_all (by rw [wrV_len]; rfl)) (by rw [wrV_len]; exact Nat.le_of_ble_eq_true rfl) ?_
        repeat (first | refine xst ?_ | refine xar ?_ | refine xop ?_ | refine xlen ?_ | refine xld rfl ?_ | refine xsto rfl ?_ | refine xno ?_ | refine xt ?_ | refine xf ?_ | refine xnu ?_)
        refine xd (q := (w.1 : Int) = (k : Int)) (fun h2 => ?_) (fun h2 => ?_)
        · have hst : (S.pend.take (i + 1)).foldl (Dk.upd k) s0 = w.2 := by rw [hst]; unfold Dk.upd; rw [if_pos (by omega)]
          repeat (first | refine xst ?_ | refine xar ?_ | refine xop ?_ | refine xlen ?_ | refine xld rfl ?_ | refine xsto rfl ?_ | refine xno ?_ | refine xt ?_ | refine xf ?_ | refine xnu ?_)
          refine xld rfl ?_ (hv := wr_part w rfl rfl)
          refine xsta (cs := secE w.2) rfl (secE_len _) (secE_one _) (secE w.2) (put_all (by rw [secE_len, secE_len])) (by rw [secE_len, secE_len]; omega) ?_
          repeat (first | refine xst ?_ | refine xar ?_ | refine xop ?_ | refine xlen ?_ | refine xld rfl ?_ | refine xsto rfl ?_ | refine xno ?_ | refine xt ?_ | refine xf ?_ | refine xnu ?_)
          refine G.fin (i + 1) ⟨by show i + 1 ≤ _; omega, by show S.pend.length - (i + 1) < S.pend.length - i; omega⟩ ⟨rfl, rfl, rfl, rfl, rfl, rfl, trivial⟩ ?_
          rw [hst]; exact ent_pick
        · have hst : (S.pend.take (i + 1)).foldl (Dk.upd k) s0 = c := by rw [hst]; unfold Dk.upd; rw [if_neg (by omega)]
          repeat (first | refine xst ?_ | refine xar ?_ | refine xop ?_ | refine xlen ?_ | refine xld rfl ?_ | refine xsto rfl ?_ | refine xno ?_ | refine xt ?_ | refine xf ?_ | refine xnu ?_)
          refine G.fin (i + 1) ⟨by show i + 1 ≤ _; omega, by show S.pend.length - (i + 1) < S.pend.length - i; omega⟩ ⟨rfl, rfl, rfl, rfl, rfl, rfl, trivial⟩ ?_
          rw [hst]; exact ent_pick
      · obtain rfl : i = S.pend.length := by omega
        rw [List.take_length, ← hget]
        repeat (first | refine xst ?_ | refine xar ?_ | refine xop ?_ | refine xlen ?_ | refine xld rfl ?_ | refine xsto rfl ?_ | refine xno ?_ | refine xt ?_ | refine xf ?_ | refine xnu ?_)
        refine xslice 0 64 rfl rfl rfl (by omega) (by omega) ?_
        refine xE 40 (.slice (some ⟨p6, 0, none⟩) 64 64) rfl rfl ?_
        refine xslc 0 1 64 (bsV (S.get k).1) rfl rfl (secE_len (S.get k)) ?_
        repeat (first | refine xst ?_ | refine xar ?_ | refine xop ?_ | refine xlen ?_ | refine xld rfl ?_ | refine xsto rfl ?_ | refine xno ?_ | refine xt ?_ | refine xf ?_ | refine xnu ?_)
        refine xretp [0] ?_
        rw [e]
        refine ⟨some ⟨p6, 0, none⟩, 64, ?_, ?_⟩
        · rw [Int.toNat_natCast, (S.get k).2]; rfl
        · rw [Int.toNat_natCast, (S.get k).2]
end Go.Proofs.YtdalmiacjicgpaaGreatDoor

/- disk: the power, writes. -/
namespace Go.Proofs.YtdalmiacjicgpaaGreatDoor
open Go.W

theorem clonebool_spec (a : Option Addr) (n cap : Nat) (l : List Bool) (hn : n = l.length) (hl : n ≤ 1000000) : Fun Tryz.prog 52 [.slice a n cap] [slR 1 a n cap (svV l)] [] fun v H => ∃ a' cap', v = .slice a' l.length cap' ∧ H = [sl 1 a' l.length cap' (svV l)] := by
  subst hn
  refine xenter (p := pg) Tryz.call52 Tryz.func52 fun C => ?_
  haveI hr := RP.slR (RP.of C (X := slR 1 a l.length cap (svV l)) (by simp))
  cases a with
  | none =>
    have hl0 : l = [] := by
      cases l with
      | nil => rfl
      | cons x r => obtain ⟨_, _, h, _⟩ := hr.some (Nat.zero_lt_succ _); cases h
    subst hl0
    repeat (first | refine xst ?_ | refine xar ?_ | refine xop ?_ | refine xlen ?_ | refine xld rfl ?_ | refine xsto rfl ?_ | refine xno ?_ | refine xt ?_ | refine xf ?_ | refine xnu ?_)
    refine xsn true rfl rfl ?_
    repeat (first | refine xst ?_ | refine xar ?_ | refine xop ?_ | refine xlen ?_ | refine xld rfl ?_ | refine xsto rfl ?_ | refine xno ?_ | refine xt ?_ | refine xf ?_ | refine xnu ?_)
    refine G.sln 1 ?_
    refine xretp [0] ?_
    exact ⟨none, 0, rfl, rfl⟩
  | some ad =>
    repeat (first | refine xst ?_ | refine xar ?_ | refine xop ?_ | refine xlen ?_ | refine xld rfl ?_ | refine xsto rfl ?_ | refine xno ?_ | refine xt ?_ | refine xf ?_ | refine xnu ?_)
    refine xsn false rfl rfl ?_
    repeat (first | refine xst ?_ | refine xar ?_ | refine xop ?_ | refine xlen ?_ | refine xld rfl ?_ | refine xsto rfl ?_ | refine xno ?_ | refine xt ?_ | refine xf ?_ | refine xnu ?_)
    refine xbsl fun b => ?_
    refine xslc 0 1 0 [] rfl rfl rfl ?_
    repeat (first | refine xst ?_ | refine xar ?_ | refine xop ?_ | refine xlen ?_ | refine xld rfl ?_ | refine xsto rfl ?_ | refine xno ?_ | refine xt ?_ | refine xf ?_ | refine xnu ?_)
    refine xapp [] rfl (SrcOk.rs hr (svV_one _)) (by omega) fun a1 c1 => ?_
    repeat (first | refine xst ?_ | refine xar ?_ | refine xop ?_ | refine xlen ?_ | refine xld rfl ?_ | refine xsto rfl ?_ | refine xno ?_ | refine xt ?_ | refine xf ?_ | refine xnu ?_)
    refine xretp [0] ?_
    exact ⟨a1, c1, by simp [resV], by simp⟩

theorem disarm_spec (d : Nat) (s p : Value) (off armed : Bool) (left : Int) (sv : Value) : Fun Tryz.prog 51 [.pointer (some ⟨d, 0, none⟩)] [] [pts d [s, p, .bool off, .bool armed, .int .i64 left, sv]] fun _ H => H = [pts d [s, p, .bool off, .bool false, .int .i64 0, .slice none 0 0]] := by
  refine xenter (p := pg) Tryz.call51 Tryz.func51 fun C => ?_
  repeat (first | refine xst ?_ | refine xar ?_ | refine xop ?_ | refine xlen ?_ | refine xld rfl ?_ | refine xsto rfl ?_ | refine xno ?_ | refine xt ?_ | refine xf ?_ | refine xnu ?_)
  exact xdonep [0] rfl

theorem apS_len (sv : List Bool) : ∀ (i : Nat) (l : List (Nat × Sec)) (s : List Sec), (apS sv i l s).length = s.length
  | _, [], _ => rfl
  | i, w :: r, s => by unfold apS; rw [apS_len sv (i + 1) r]; split <;> simp
/-- The power fails: the disk's own parts, and the survivors' flags. -/
theorem crash_spec (d : Nat) (S : Dk) (ok : S.ok) (hp : S.pend.length ≤ 1000000) (a1 : Option Addr) (c1 : Nat) (a2 : Option Addr) (c2 : Nat) (a3 : Option Addr) (c3 : Nat) (sa : Option Addr) (scap : Nat) (sv : List Bool) :
    Fun Tryz.prog 182 [.pointer (some ⟨d, 0, none⟩), .slice sa sv.length scap] [slR 1 sa sv.length scap (svV sv)] [pts d (dkC S a1 c1 a2 c2 a3 c3), sl 64 a1 S.sec.length c1 (secV S.sec), sl 65 a2 S.pend.length c2 (penV S.pend)]
    fun _ H => (S.off = true ∧ H = [pts d (dkC S a1 c1 a2 c2 a3 c3), sl 64 a1 S.sec.length c1 (secV S.sec), sl 65 a2 S.pend.length c2 (penV S.pend)]) ∨ (S.off = false ∧ H = [pts d (dkC (S.crash sv) a1 c1 none 0 none 0), sl 64 a1 S.sec.length c1 (secV (S.crash sv).sec)]) := by
  refine xenter (p := pg) Tryz.call182 Tryz.func182 fun C => ?_
  have hsv := RP.slR (RP.of C (X := slR 1 sa sv.length scap (svV sv)) (by simp))
  repeat (first | refine xst ?_ | refine xar ?_ | refine xop ?_ | refine xlen ?_ | refine xld rfl ?_ | refine xsto rfl ?_ | refine xno ?_ | refine xt ?_ | refine xf ?_ | refine xnu ?_)
  refine xb (fun ho => ?_) (fun ho => ?_)
  · repeat (first | refine xst ?_ | refine xar ?_ | refine xop ?_ | refine xlen ?_ | refine xld rfl ?_ | refine xsto rfl ?_ | refine xno ?_ | refine xt ?_ | refine xf ?_ | refine xnu ?_)
    refine xretp [0, 0, 0] ?_
    exact .inl ⟨ho, rfl⟩
  · have hcr : S.crash sv = ⟨apS sv 0 S.pend S.sec, [], true, false, 0, []⟩ := by unfold Dk.crash; rw [if_neg (by rw [ho]; decide)]
    repeat (refine xnot 15 ?_; first | refine xst ?_ | refine xar ?_ | refine xop ?_ | refine xlen ?_ | refine xld rfl ?_ | refine xsto rfl ?_ | refine xno ?_ | refine xt ?_ | refine xf ?_ | refine xnu ?_)
    refine xst ?_
    refine G.cut (σ := Unit) (fun _ => [(0, .pointer (some ⟨d, 0, none⟩))]) (fun _ => [sl 64 a1 S.sec.length c1 (secV (apS sv 0 S.pend S.sec)), pts d (dkC S a1 c1 a2 c2 a3 c3)]) (fun _ => True) ?_ ?_
    · repeat (first | refine xst ?_ | refine xar ?_ | refine xop ?_ | refine xlen ?_ | refine xld rfl ?_ | refine xsto rfl ?_ | refine xno ?_ | refine xt ?_ | refine xf ?_ | refine xnu ?_)
      refine G.loop (σ := Nat × List Sec) (fun s__ => [(0, .pointer (some ⟨d, 0, none⟩)), (1, .slice sa sv.length scap), (13, .slice a2 S.pend.length c2), (14, .int .i64 (S.pend.length : Int)), (15, .int .i64 (s__.1 : Int))]) (fun s__ => [sl 64 a1 S.sec.length c1 (secV s__.2), pts d (dkC S a1 c1 a2 c2 a3 c3), sl 65 a2 S.pend.length c2 (penV S.pend)]) (fun s__ => s__.1 ≤ S.pend.length ∧ s__.2.length = S.sec.length ∧ apS sv 0 S.pend S.sec = apS sv s__.1 (S.pend.drop s__.1) s__.2) (fun s__ => S.pend.length - s__.1) (0, S.sec) ⟨Nat.zero_le _, rfl, rfl⟩ (by repeat (first | exact trivial | refine ⟨rfl, ?_⟩)) (by first | exact Ent.refl _ | exact ent_pick) ?_
      rintro ⟨i, s⟩ hI
      have hI : i ≤ S.pend.length ∧ s.length = S.sec.length ∧ apS sv 0 S.pend S.sec = apS sv i (S.pend.drop i) s := hI
      show G C _ [(0, .pointer (some ⟨d, 0, none⟩)), (1, .slice sa sv.length scap), (13, .slice a2 S.pend.length c2), (14, .int .i64 (S.pend.length : Int)), (15, .int .i64 (i : Int))] [sl 64 a1 S.sec.length c1 (secV s), pts d (dkC S a1 c1 a2 c2 a3 c3), sl 65 a2 S.pend.length c2 (penV S.pend)]
      obtain ⟨hi, hsl, hv⟩ := hI
      repeat (first | refine xst ?_ | refine xar ?_ | refine xop ?_ | refine xlen ?_ | refine xld rfl ?_ | refine xsto rfl ?_ | refine xno ?_ | refine xt ?_ | refine xf ?_ | refine xnu ?_)
      refine xd (q := (i : Int) < (S.pend.length : Int)) (fun h => ?_) (fun h => ?_)
      · have h : i < S.pend.length := by omega
        refine xslf 2 rfl fun q1 q2 q3 => ?_
        obtain ⟨pb, po, rfl⟩ := q3 (by omega)
        have hg := penV_get h
        have hd : S.pend.drop i = S.pend[i] :: S.pend.drop (i + 1) := List.drop_eq_getElem_cons h
        have hw := ok.pend _ (List.getElem_mem h)
        rw [hd, apS] at hv
        generalize S.pend[i] = w at hg hv hw
        obtain ⟨k, x⟩ := w
        simp only at hw hv
        repeat (first | refine xst ?_ | refine xar ?_ | refine xop ?_ | refine xlen ?_ | refine xld rfl ?_ | refine xsto rfl ?_ | refine xno ?_ | refine xt ?_ | refine xf ?_ | refine xnu ?_)
        refine xix ?_ (hk := h)
        refine xldla rfl (i * 65) (wrV (k, x)) rfl hg (by rw [penV_len]; show i * 65 + 65 ≤ _; omega) ?_
        refine xnew fun p5 => ?_
        refine xop ?_
        refine xsta (cs := wrV (k, x)) rfl (wrV_len _) (wrV_one _) (wrV (k, x)) (put_all (by rw [wrV_len]; rfl)) (by rw [wrV_len]; exact Nat.le_of_ble_eq_true rfl) ?_
        repeat (refine xnot 23 ?_; first | refine xst ?_ | refine xar ?_ | refine xop ?_ | refine xlen ?_ | refine xld rfl ?_ | refine xsto rfl ?_ | refine xno ?_ | refine xt ?_ | refine xf ?_ | refine xnu ?_)
        by_cases hlt : i < sv.length ∧ sv.getD i false = true
        · obtain ⟨hil, hsvt⟩ := hlt
          rw [hsvt, if_pos rfl] at hv
          refine xE 23 (.bool true) rfl (congrArg Value.bool (decide_eq_true (show (i : Int) < (sv.length : Int) by omega))) ?_
          obtain ⟨vb, vo, rfl, hvb⟩ := hsv.some (by omega)
          repeat (first | refine xst ?_ | refine xar ?_ | refine xop ?_ | refine xlen ?_ | refine xld rfl ?_ | refine xsto rfl ?_ | refine xno ?_ | refine xt ?_ | refine xf ?_ | refine xnu ?_)
          refine xix ?_ (hk := hil)
          refine xldl rfl i ((svV_get hil).trans (by rw [hsvt])) ?_
          repeat (first | refine xst ?_ | refine xar ?_ | refine xop ?_ | refine xlen ?_ | refine xld rfl ?_ | refine xsto rfl ?_ | refine xno ?_ | refine xt ?_ | refine xf ?_ | refine xnu ?_)
          refine xslf 1 rfl fun r1 r2 r3 => ?_
          obtain ⟨sb, so, rfl⟩ := r3 (by omega)
          refine xdraw ?_
          refine xdop 0 ?_
          refine xdop 1 ?_
          refine xdop 2 ?_
          refine xdld 3 rfl rfl ?_
          refine xdop 4 ?_
          refine xdld 5 rfl rfl ?_
          refine xdop 6 ?_
          refine xdld 7 rfl rfl ?_ (hv := wr_part (k, x) rfl rfl)
          refine xdix 8 ?_ (hk := hw)
          refine xdact 9 ?_
          refine xstla (cs := secE x) rfl (secE_len _) (secE_one _) (k * 64) (secV (s.set k x)) (secV_set s k (by omega) x) (by rw [secV_len, secE_len]; omega) ?_
          refine xst ?_
          refine xdend ?_
          repeat (first | refine xst ?_ | refine xar ?_ | refine xop ?_ | refine xlen ?_ | refine xld rfl ?_ | refine xsto rfl ?_ | refine xno ?_ | refine xt ?_ | refine xf ?_ | refine xnu ?_)
          exact G.fin (i + 1, s.set k x) ⟨⟨by show i + 1 ≤ _; omega, by show (s.set k x).length = _; rw [List.length_set, hsl], hv⟩, by show S.pend.length - (i + 1) < S.pend.length - i; omega⟩ (by repeat (first | exact trivial | refine ⟨rfl, ?_⟩)) (by first | exact Ent.refl _ | exact ent_pick)
        · have hff : sv.getD i false = false := by
            cases hb : sv.getD i false with
            | false => rfl
            | true => exact absurd ⟨by
                rcases Nat.lt_or_ge i sv.length with h' | h'
                · exact h'
                · rw [List.getD_eq_getElem?_getD, List.getElem?_eq_none h'] at hb; simp at hb, hb⟩ hlt
          rw [hff, if_neg (by decide)] at hv
          refine G.cut (σ := Unit) (fun _ => [(0, .pointer (some ⟨d, 0, none⟩)), (1, .slice sa sv.length scap), (13, .slice (some ⟨pb, po, none⟩) S.pend.length c2), (14, .int .i64 (S.pend.length : Int)), (15, .int .i64 (i : Int)), (29, .bool false)]) (fun _ => [sl 64 a1 S.sec.length c1 (secV s), pts d (dkC S a1 c1 (some ⟨pb, po, none⟩) c2 a3 c3), sl 65 (some ⟨pb, po, none⟩) S.pend.length c2 (penV S.pend)]) (fun _ => True) ?_ ?_
          · by_cases hil : i < sv.length
            · refine xE 23 (.bool true) rfl (congrArg Value.bool (decide_eq_true (show (i : Int) < (sv.length : Int) by omega))) ?_
              obtain ⟨vb, vo, rfl, hvb⟩ := hsv.some (by omega)
              repeat (first | refine xst ?_ | refine xar ?_ | refine xop ?_ | refine xlen ?_ | refine xld rfl ?_ | refine xsto rfl ?_ | refine xno ?_ | refine xt ?_ | refine xf ?_ | refine xnu ?_)
              refine xix ?_ (hk := hil)
              refine xldl rfl i ((svV_get hil).trans (by rw [hff])) ?_
              repeat (refine xnot 29 ?_; first | refine xst ?_ | refine xar ?_ | refine xop ?_ | refine xlen ?_ | refine xld rfl ?_ | refine xsto rfl ?_ | refine xno ?_ | refine xt ?_ | refine xf ?_ | refine xnu ?_)
              refine xst ?_
              exact G.fin () trivial (by repeat (first | exact trivial | refine ⟨rfl, ?_⟩)) (by first | exact Ent.refl _ | exact ent_pick)
            · refine xE 23 (.bool false) rfl (congrArg Value.bool (decide_eq_false (show ¬ (i : Int) < (sv.length : Int) by omega))) ?_
              repeat (refine xnot 29 ?_; first | refine xst ?_ | refine xar ?_ | refine xop ?_ | refine xlen ?_ | refine xld rfl ?_ | refine xsto rfl ?_ | refine xno ?_ | refine xt ?_ | refine xf ?_ | refine xnu ?_)
              refine xst ?_
              exact G.fin () trivial (by repeat (first | exact trivial | refine ⟨rfl, ?_⟩)) (by first | exact Ent.refl _ | exact ent_pick)
          rintro _ hI
          have hI : True := hI
          show G C _ [(0, .pointer (some ⟨d, 0, none⟩)), (1, .slice sa sv.length scap), (13, .slice (some ⟨pb, po, none⟩) S.pend.length c2), (14, .int .i64 (S.pend.length : Int)), (15, .int .i64 (i : Int)), (29, .bool false)] [sl 64 a1 S.sec.length c1 (secV s), pts d (dkC S a1 c1 (some ⟨pb, po, none⟩) c2 a3 c3), sl 65 (some ⟨pb, po, none⟩) S.pend.length c2 (penV S.pend)]
          repeat (first | refine xst ?_ | refine xar ?_ | refine xop ?_ | refine xlen ?_ | refine xld rfl ?_ | refine xsto rfl ?_ | refine xno ?_ | refine xt ?_ | refine xf ?_ | refine xnu ?_)
          exact G.fin (i + 1, s) ⟨⟨by show i + 1 ≤ _; omega, hsl, hv⟩, by show S.pend.length - (i + 1) < S.pend.length - i; omega⟩ (by repeat (first | exact trivial | refine ⟨rfl, ?_⟩)) (by first | exact Ent.refl _ | exact ent_pick)
      · rw [List.drop_eq_nil_of_le (by omega)] at hv
        have hv : apS sv 0 S.pend S.sec = s := hv
        repeat (first | refine xst ?_ | refine xar ?_ | refine xop ?_ | refine xlen ?_ | refine xld rfl ?_ | refine xsto rfl ?_ | refine xno ?_ | refine xt ?_ | refine xf ?_ | refine xnu ?_)
        refine G.fin () trivial ⟨rfl, trivial⟩ ?_
        rw [hv]; exact ent_pick
    rintro _ hI
    have hI : True := hI
    show G C _ [(0, .pointer (some ⟨d, 0, none⟩))] [sl 64 a1 S.sec.length c1 (secV (apS sv 0 S.pend S.sec)), pts d (dkC S a1 c1 a2 c2 a3 c3)]
    repeat (first | refine xst ?_ | refine xar ?_ | refine xop ?_ | refine xlen ?_ | refine xld rfl ?_ | refine xsto rfl ?_ | refine xno ?_ | refine xt ?_ | refine xf ?_ | refine xnu ?_)
    refine xcall (disarm_spec d (.slice a1 S.sec.length c1) (.slice none 0 0) true S.armed S.left (.slice a3 S.surv.length c3)) ?_
    rintro v H rfl
    refine G.app ?_
    repeat (first | refine xst ?_ | refine xar ?_ | refine xop ?_ | refine xlen ?_ | refine xld rfl ?_ | refine xsto rfl ?_ | refine xno ?_ | refine xt ?_ | refine xf ?_ | refine xnu ?_)
    refine xdonep [0, 0] ?_
    refine .inr ⟨ho, ?_⟩
    rw [hcr]
    unfold dkC
    simp only [apS_len]
    rfl

theorem crash_len (S : Dk) (sv : List Bool) : (S.crash sv).sec.length = S.sec.length := by unfold Dk.crash; split; rfl; exact apS_len _ _ _ _
theorem pow_len (S : Dk) : S.pow.2.sec.length = S.sec.length := by
  unfold Dk.pow
  split
  · rfl
  · split
    · rfl
    · split
      · exact crash_len _ _
      · rfl
theorem crash_ok {S : Dk} (ok : S.ok) (sv : List Bool) : (S.crash sv).ok := ⟨by rw [crash_len]; exact ok.few, by
  rw [crash_len]
  unfold Dk.crash
  split
  · exact ok.pend
  · intro w hw; cases hw⟩
theorem pow_ok {S : Dk} (ok : S.ok) : S.pow.2.ok := by
  unfold Dk.pow
  split
  · exact ok
  · split
    · exact ok
    · split
      · exact crash_ok ok _
      · exact ⟨ok.few, ok.pend⟩
theorem pow_pend (S : Dk) : S.pow.2.pend.length ≤ S.pend.length := by
  unfold Dk.pow
  split
  · exact Nat.le_refl _
  · split
    · exact Nat.le_refl _
    · split
      · unfold Dk.crash; split
        · exact Nat.le_refl _
        · exact Nat.zero_le _
      · exact Nat.le_refl _
theorem powered_spec (d : Nat) (S : Dk) (ok : S.ok) (hp : S.pend.length ≤ 1000000) : Fun Tryz.prog 165 [.pointer (some ⟨d, 0, none⟩)] [] [diskH d S] fun v H => v = .bool S.pow.1 ∧ H = [diskH d S.pow.2] := by
  refine xenter (p := pg) Tryz.call165 Tryz.func165 fun C => ?_
  refine G.disk d (S := S) fun a1 c1 a2 c2 a3 c3 => ?_
  cases ho : S.off with
  | true =>
    have e : S.pow = (false, S) := by unfold Dk.pow; rw [if_pos ho]
    refine xrep 0 [.slice a1 S.sec.length c1, .slice a2 S.pend.length c2, .bool true, .bool S.armed, .int .i64 S.left, .slice a3 S.surv.length c3] rfl (by unfold dkC; rw [ho]) ?_
    repeat (first | refine xst ?_ | refine xar ?_ | refine xop ?_ | refine xlen ?_ | refine xld rfl ?_ | refine xsto rfl ?_ | refine xno ?_ | refine xt ?_ | refine xf ?_ | refine xnu ?_)
    refine xrep 0 (dkC S a1 c1 a2 c2 a3 c3) rfl (by unfold dkC; rw [ho]) ?_
    refine xfold (diskH d S) [0, 0, 0, 0] rfl (disk_fold d S a1 c1 a2 c2 a3 c3) ?_
    refine xretp [0] ?_
    rw [e]; exact ⟨rfl, rfl⟩
  | false =>
    cases ha : S.armed with
    | false =>
      have e : S.pow = (true, S) := by unfold Dk.pow; rw [if_neg (by rw [ho]; decide), if_pos ha]
      refine xrep 0 [.slice a1 S.sec.length c1, .slice a2 S.pend.length c2, .bool false, .bool false, .int .i64 S.left, .slice a3 S.surv.length c3] rfl (by unfold dkC; rw [ho, ha]) ?_
      repeat (first | refine xst ?_ | refine xar ?_ | refine xop ?_ | refine xlen ?_ | refine xld rfl ?_ | refine xsto rfl ?_ | refine xno ?_ | refine xt ?_ | refine xf ?_ | refine xnu ?_)
      refine xrep 0 (dkC S a1 c1 a2 c2 a3 c3) rfl (by unfold dkC; rw [ho, ha]) ?_
      refine xfold (diskH d S) [0, 0, 0, 0] rfl (disk_fold d S a1 c1 a2 c2 a3 c3) ?_
      refine xretp [0] ?_
      rw [e]; exact ⟨rfl, rfl⟩
    | true =>
      refine xrep 0 [.slice a1 S.sec.length c1, .slice a2 S.pend.length c2, .bool false, .bool true, .int .i64 S.left, .slice a3 S.surv.length c3] rfl (by unfold dkC; rw [ho, ha]) ?_
      repeat (first | refine xst ?_ | refine xar ?_ | refine xop ?_ | refine xlen ?_ | refine xld rfl ?_ | refine xsto rfl ?_ | refine xno ?_ | refine xt ?_ | refine xf ?_ | refine xnu ?_)
      refine xd (q := S.left = 0) (fun h => ?_) (fun h => ?_)
      · have e : S.pow = (false, S.crash S.surv) := by unfold Dk.pow; rw [if_neg (by rw [ho]; decide), if_neg (by rw [ha]; decide), if_pos h]
        repeat (first | refine xst ?_ | refine xar ?_ | refine xop ?_ | refine xlen ?_ | refine xld rfl ?_ | refine xsto rfl ?_ | refine xno ?_ | refine xt ?_ | refine xf ?_ | refine xnu ?_)
        refine xrep 0 (dkC S a1 c1 a2 c2 a3 c3) rfl (by unfold dkC; rw [ho, ha]) ?_
        refine xcall (crash_spec d S ok hp a1 c1 a2 c2 a3 c3 a3 c3 S.surv) ?_
        rintro v H (⟨h1, _⟩ | ⟨_, rfl⟩)
        · rw [ho] at h1; cases h1
        refine G.app ?_
        have hcr : (S.crash S.surv).pend = [] ∧ (S.crash S.surv).surv = [] := by unfold Dk.crash; rw [if_neg (by rw [ho]; decide)]; exact ⟨rfl, rfl⟩
        refine xreH 1 (sl 64 a1 (S.crash S.surv).sec.length c1 (secV (S.crash S.surv).sec)) rfl (by rw [crash_len]) ?_
        refine G.sln 65 ?_
        refine xreH 0 (sl 65 none (S.crash S.surv).pend.length 0 (penV (S.crash S.surv).pend)) rfl (by rw [hcr.1]; rfl) ?_
        refine G.sln 1 ?_
        refine xreH 0 (sl 1 none (S.crash S.surv).surv.length 0 (svV (S.crash S.surv).surv)) rfl (by rw [hcr.2]; rfl) ?_
        repeat (first | refine xst ?_ | refine xar ?_ | refine xop ?_ | refine xlen ?_ | refine xld rfl ?_ | refine xsto rfl ?_ | refine xno ?_ | refine xt ?_ | refine xf ?_ | refine xnu ?_)
        refine xfold (diskH d (S.crash S.surv)) [3, 2, 1, 0] rfl (disk_fold d (S.crash S.surv) a1 c1 none 0 none 0) ?_
        refine xretp [0] ?_
        rw [e]; exact ⟨rfl, rfl⟩
      · have e : S.pow = (true, { S with left := IntKind.i64.wrap (S.left - 1) }) := by unfold Dk.pow; rw [if_neg (by rw [ho]; decide), if_neg (by rw [ha]; decide), if_neg h]
        repeat (refine xnot 34 ?_; first | refine xst ?_ | refine xar ?_ | refine xop ?_ | refine xlen ?_ | refine xld rfl ?_ | refine xsto rfl ?_ | refine xno ?_ | refine xt ?_ | refine xf ?_ | refine xnu ?_)
        refine xE 34 (.int .i64 (IntKind.i64.wrap (S.left - 1))) rfl (by first | rfl | exact congrArg (Value.int .i64) (wrap_in (k := .i64) ⟨by omega, by omega⟩).symm) ?_
        repeat (first | refine xst ?_ | refine xar ?_ | refine xop ?_ | refine xlen ?_ | refine xld rfl ?_ | refine xsto rfl ?_ | refine xno ?_ | refine xt ?_ | refine xf ?_ | refine xnu ?_)
        refine xrep 0 (dkC { S with left := IntKind.i64.wrap (S.left - 1) } a1 c1 a2 c2 a3 c3) rfl (by unfold dkC; rw [ho, ha]) ?_
        refine xfold (diskH d { S with left := IntKind.i64.wrap (S.left - 1) }) [0, 0, 0, 0] rfl (disk_fold d { S with left := IntKind.i64.wrap (S.left - 1) } a1 c1 a2 c2 a3 c3) ?_
        refine xretp [0] ?_
        rw [e]; exact ⟨rfl, rfl⟩

theorem write_len (S : Dk) (at_ : Int) (b : List UInt8) : (S.write at_ b).2.sec.length = S.sec.length := by
  unfold Dk.write
  split
  · rfl
  · split
    · split
      · exact pow_len S
      · exact pow_len S
    · rfl
theorem write_ok {S : Dk} (ok : S.ok) (at_ : Int) (b : List UInt8) : (S.write at_ b).2.ok := by
  refine ⟨by rw [write_len]; exact ok.few, ?_⟩
  rw [write_len]
  unfold Dk.write
  split
  · exact ok.pend
  · rename_i hh
    split
    · split
      · intro w hw
        rcases List.mem_append.1 hw with hw | hw
        · have := (pow_ok ok).pend w hw; rwa [pow_len] at this
        · rw [List.mem_singleton] at hw
          subst hw
          unfold Dk.has at hh
          simp only [Bool.and_eq_false_iff, decide_eq_false_iff_not] at hh
          show at_.toNat < S.sec.length
          omega
      · intro w hw; have := (pow_ok ok).pend w hw; rwa [pow_len] at this
    · exact ok.pend
theorem write_pend (S : Dk) (at_ : Int) (b : List UInt8) : (S.write at_ b).2.pend.length ≤ S.pend.length + 1 := by
  have := pow_pend S
  unfold Dk.write
  split
  · exact Nat.le_succ _
  · split
    · split
      · simp only [List.length_append, List.length_singleton]; omega
      · exact Nat.le_succ_of_le this
    · exact Nat.le_succ _
theorem penV_append (l m : List (Nat × Sec)) : penV (l ++ m) = penV l ++ penV m := by simp [penV]
theorem dwrite_spec (d : Nat) (S : Dk) (ok : S.ok) (hp : S.pend.length ≤ 1000000) (at_ : Int) (a : Option Addr) (n cap : Nat) (b : List UInt8) (hn : n = b.length) : Fun Tryz.prog 133 [.pointer (some ⟨d, 0, none⟩), .int .i64 at_, .slice a n cap] [slR 1 a n cap (bsV b)] [diskH d S]
    fun v H => v = .int .i64 (S.write at_ b).1 ∧ H = [diskH d (S.write at_ b).2] := by
  subst hn
  refine xenter (p := pg) Tryz.call133 Tryz.func133 fun C => ?_
  haveI hb := RP.slR (RP.of C (X := slR 1 a b.length cap (bsV b)) (by simp))
  repeat (first | refine xst ?_ | refine xar ?_ | refine xop ?_ | refine xlen ?_ | refine xld rfl ?_ | refine xsto rfl ?_ | refine xno ?_ | refine xt ?_ | refine xf ?_ | refine xnu ?_)
  refine xcall (has_spec' d S at_) ?_
  rintro v H ⟨rfl, rfl⟩
  refine G.app ?_
  cases hh : S.has at_ with
  | false =>
    have e : S.write at_ b = (4, S) := by unfold Dk.write; rw [if_pos hh]
    repeat (first | refine xst ?_ | refine xar ?_ | refine xop ?_ | refine xlen ?_ | refine xld rfl ?_ | refine xsto rfl ?_ | refine xno ?_ | refine xt ?_ | refine xf ?_ | refine xnu ?_)
    refine xretp [0] ?_
    rw [e]; exact ⟨rfl, rfl⟩
  | true =>
    repeat (first | refine xst ?_ | refine xar ?_ | refine xop ?_ | refine xlen ?_ | refine xld rfl ?_ | refine xsto rfl ?_ | refine xno ?_ | refine xt ?_ | refine xf ?_ | refine xnu ?_)
    refine xd (q := (b.length : Int) ≠ 64) (fun h => ?_) (fun h => ?_)
    · have e : S.write at_ b = (1, S) := by unfold Dk.write; rw [if_neg (by rw [hh]; decide), dif_neg (by omega)]
      repeat (first | refine xst ?_ | refine xar ?_ | refine xop ?_ | refine xlen ?_ | refine xld rfl ?_ | refine xsto rfl ?_ | refine xno ?_ | refine xt ?_ | refine xf ?_ | refine xnu ?_)
      refine xretp [0] ?_
      rw [e]; exact ⟨rfl, rfl⟩
    · have h64 : b.length = 64 := by omega
      repeat (first | refine xst ?_ | refine xar ?_ | refine xop ?_ | refine xlen ?_ | refine xld rfl ?_ | refine xsto rfl ?_ | refine xno ?_ | refine xt ?_ | refine xf ?_ | refine xnu ?_)
      refine xcall (powered_spec d S ok hp) ?_
      rintro v H ⟨rfl, rfl⟩
      refine G.app ?_
      cases hpw : S.pow.1 with
      | false =>
        have e : S.write at_ b = (9, S.pow.2) := by unfold Dk.write; rw [if_neg (by rw [hh]; decide), dif_pos h64, if_neg (by rw [hpw]; decide)]
        repeat (first | refine xst ?_ | refine xar ?_ | refine xop ?_ | refine xlen ?_ | refine xld rfl ?_ | refine xsto rfl ?_ | refine xno ?_ | refine xt ?_ | refine xf ?_ | refine xnu ?_)
        refine xretp [0] ?_
        rw [e]; exact ⟨rfl, rfl⟩
      | true =>
        have e : S.write at_ b = (0, { S.pow.2 with pend := S.pow.2.pend ++ [(at_.toNat, ⟨b, h64⟩)] }) := by unfold Dk.write; rw [if_neg (by rw [hh]; decide), dif_pos h64, if_pos hpw]
        have hpp := pow_pend S
        obtain ⟨S', hS'⟩ : ∃ S', S.pow.2 = S' := ⟨_, rfl⟩
        rw [hS'] at hpp e
        refine xreH 0 (diskH d S') rfl (by rw [hS']) ?_
        unfold Dk.has at hh
        rw [Bool.and_eq_true, decide_eq_true_eq, decide_eq_true_eq] at hh
        obtain ⟨k, rfl⟩ : ∃ k : Nat, at_ = k := ⟨at_.toNat, by omega⟩
        obtain ⟨w, hw⟩ : ∃ w : Nat × Sec, w = (k, ⟨b, h64⟩) := ⟨_, rfl⟩
        rw [Int.toNat_natCast, ← hw] at e
        repeat (refine xnot 19 ?_; first | refine xst ?_ | refine xar ?_ | refine xop ?_ | refine xlen ?_ | refine xld rfl ?_ | refine xsto rfl ?_ | refine xno ?_ | refine xt ?_ | refine xf ?_ | refine xnu ?_)
        refine xE 19 (.agg (wrV (k, Sec.zero)).toArray) rfl rfl ?_
        refine xnew fun p7 => ?_
        refine xsta (cs := wrV (k, Sec.zero)) rfl rfl (wrV_one _) (wrV (k, Sec.zero)) (put_all (by rw [wrV_len]; rfl)) (by rw [wrV_len]; exact Nat.le_of_ble_eq_true rfl) ?_
        repeat (first | refine xst ?_ | refine xar ?_ | refine xop ?_ | refine xlen ?_ | refine xld rfl ?_ | refine xsto rfl ?_ | refine xno ?_ | refine xt ?_ | refine xf ?_ | refine xnu ?_)
        refine xslice 0 64 rfl rfl rfl (by omega) (by omega) ?_
        refine xE 21 (.slice (some ⟨p7, 1, none⟩) 64 64) rfl rfl ?_
        repeat (first | refine xst ?_ | refine xar ?_ | refine xop ?_ | refine xlen ?_ | refine xld rfl ?_ | refine xsto rfl ?_ | refine xno ?_ | refine xt ?_ | refine xf ?_ | refine xnu ?_)
        refine xcopy rfl (SrcOk.rs hb (bsV_one _)) 64 (by rw [h64]; rfl) (wrV w) ?_ (by rw [wrV_len]; decide) ?_
        · rw [List.take_of_length_le (l := bsV b) (by rw [bsV_length, h64]; decide)]
          show [Value.int .i64 (k : Int)] ++ bsV b ++ _ = wrV w
          rw [hw, List.drop_eq_nil_of_le (by rw [wrV_len]; decide), List.append_nil]; rfl
        repeat (first | refine xst ?_ | refine xar ?_ | refine xop ?_ | refine xlen ?_ | refine xld rfl ?_ | refine xsto rfl ?_ | refine xno ?_ | refine xt ?_ | refine xf ?_ | refine xnu ?_)
        refine G.disk d (S := S') fun a1 c1 a2 c2 a3 c3 => ?_
        refine xdraw ?_
        refine xdop 0 ?_
        refine xdop 1 ?_
        refine xdop 2 ?_
        refine xdop 3 ?_
        refine xdld 4 rfl rfl ?_
        refine xdld 5 rfl rfl ?_ (hv := partF_all rfl (wrV_len w))
        refine xdact 6 ?_
        refine xbsl1 rfl (wrV_len w) fun b30 => ?_
        refine xst ?_
        refine xdact 7 ?_
        refine xapp (penV S'.pend) rfl (SrcOk.blk (ys := wrV w) (by rw [List.drop_zero, List.take_of_length_le (by rw [wrV_len]; decide)]) (by rw [wrV_len]; decide) (wrV_one w)) (by show (S'.pend.length + 1) * 72 ≤ _; omega) fun a4 c4 => ?_
        refine xst ?_
        refine xdop 8 ?_
        refine xdop 9 ?_
        refine xdact 10 ?_
        refine xsto rfl ?_
        refine xst ?_
        refine xdend ?_
        repeat (first | refine xst ?_ | refine xar ?_ | refine xop ?_ | refine xlen ?_ | refine xld rfl ?_ | refine xsto rfl ?_ | refine xno ?_ | refine xt ?_ | refine xf ?_ | refine xnu ?_)
        refine xreH 0 (sl 65 a4 (S'.pend ++ [w]).length c4 (penV (S'.pend ++ [w]))) rfl (by rw [penV_append, List.length_append, show penV [w] = wrV w by simp [penV]]; rfl) ?_
        refine xrep 2 (dkC { S' with pend := S'.pend ++ [w] } a1 c1 a4 c4 a3 c3) rfl (by unfold dkC; simp only [List.length_append, List.length_singleton]) ?_
        refine xfold (diskH d { S' with pend := S'.pend ++ [w] }) [0, 2, 0, 1] rfl (disk_fold d { S' with pend := S'.pend ++ [w] } a1 c1 a4 c4 a3 c3) ?_
        refine xretp [0] ?_
        rw [e]; exact ⟨rfl, rfl⟩
end Go.Proofs.YtdalmiacjicgpaaGreatDoor

/- disk: Flush, Arm, Power, Image. -/
namespace Go.Proofs.YtdalmiacjicgpaaGreatDoor
open Go.W

theorem flu_len : ∀ (l : List (Nat × Sec)) (s : List Sec), (l.foldl putS s).length = s.length
  | [], _ => rfl
  | w :: l, s => by rw [List.foldl_cons, flu_len l, putS, List.length_set]
theorem flush_len (S : Dk) : S.flush.2.sec.length = S.sec.length := by
  unfold Dk.flush
  split
  · exact (flu_len S.pow.2.pend S.pow.2.sec).trans (pow_len S)
  · exact pow_len S
theorem flush_ok {S : Dk} (ok : S.ok) : S.flush.2.ok := by
  refine ⟨by rw [flush_len]; exact ok.few, ?_⟩
  rw [flush_len]
  unfold Dk.flush
  split
  · intro w hw; cases hw
  · intro w hw; have := (pow_ok ok).pend w hw; rwa [pow_len] at this
theorem flush_pend (S : Dk) : S.flush.2.pend.length ≤ S.pend.length := by
  unfold Dk.flush
  split
  · exact Nat.zero_le _
  · exact pow_pend S
theorem dflush_spec (d : Nat) (S : Dk) (ok : S.ok) (hp : S.pend.length ≤ 1000000) : Fun Tryz.prog 134 [.pointer (some ⟨d, 0, none⟩)] [] [diskH d S] fun v H => v = .int .i64 S.flush.1 ∧ H = [diskH d S.flush.2] := by
  refine xenter (p := pg) Tryz.call134 Tryz.func134 fun C => ?_
  repeat (first | refine xst ?_ | refine xar ?_ | refine xop ?_ | refine xlen ?_ | refine xld rfl ?_ | refine xsto rfl ?_ | refine xno ?_ | refine xt ?_ | refine xf ?_ | refine xnu ?_)
  refine xcall (powered_spec d S ok hp) ?_
  rintro v H ⟨rfl, rfl⟩
  refine G.app ?_
  cases hpw : S.pow.1 with
  | false =>
    have e : S.flush = (9, S.pow.2) := by unfold Dk.flush; rw [if_neg (by rw [hpw]; decide)]
    repeat (first | refine xst ?_ | refine xar ?_ | refine xop ?_ | refine xlen ?_ | refine xld rfl ?_ | refine xsto rfl ?_ | refine xno ?_ | refine xt ?_ | refine xf ?_ | refine xnu ?_)
    refine xretp [0] ?_
    rw [e]; exact ⟨rfl, rfl⟩
  | true =>
    have e : S.flush = (0, S.pow.2.flushed) := by unfold Dk.flush; rw [if_pos hpw]
    have hpp := pow_pend S
    have ok' := pow_ok ok
    obtain ⟨S', hS'⟩ : ∃ S', S.pow.2 = S' := ⟨_, rfl⟩
    rw [hS'] at hpp e ok'
    refine xreH 0 (diskH d S') rfl (by rw [hS']) ?_
    refine G.disk d (S := S') fun a1 c1 a2 c2 a3 c3 => ?_
    repeat (first | refine xst ?_ | refine xar ?_ | refine xop ?_ | refine xlen ?_ | refine xld rfl ?_ | refine xsto rfl ?_ | refine xno ?_ | refine xt ?_ | refine xf ?_ | refine xnu ?_)
    refine G.loop (σ := Nat × List Sec) (fun s__ => [(0, .pointer (some ⟨d, 0, none⟩)), (11, .slice a2 S'.pend.length c2), (12, .int .i64 (S'.pend.length : Int)), (13, .int .i64 (s__.1 : Int))]) (fun s__ => [sl 64 a1 S'.sec.length c1 (secV s__.2), pts d (dkC S' a1 c1 a2 c2 a3 c3), sl 65 a2 S'.pend.length c2 (penV S'.pend), sl 1 a3 S'.surv.length c3 (svV S'.surv)]) (fun s__ => s__.1 ≤ S'.pend.length ∧ s__.2.length = S'.sec.length ∧ S'.pend.foldl putS S'.sec = (S'.pend.drop s__.1).foldl putS s__.2) (fun s__ => S'.pend.length - s__.1) (0, S'.sec) ⟨Nat.zero_le _, rfl, rfl⟩ (by repeat (first | exact trivial | refine ⟨rfl, ?_⟩)) (by first | exact Ent.refl _ | exact ent_pick) ?_
    rintro ⟨i, s⟩ hI
    have hI : i ≤ S'.pend.length ∧ s.length = S'.sec.length ∧ S'.pend.foldl putS S'.sec = (S'.pend.drop i).foldl putS s := hI
    show G C _ [(0, .pointer (some ⟨d, 0, none⟩)), (11, .slice a2 S'.pend.length c2), (12, .int .i64 (S'.pend.length : Int)), (13, .int .i64 (i : Int))] [sl 64 a1 S'.sec.length c1 (secV s), pts d (dkC S' a1 c1 a2 c2 a3 c3), sl 65 a2 S'.pend.length c2 (penV S'.pend), sl 1 a3 S'.surv.length c3 (svV S'.surv)]
    obtain ⟨hi, hsl, hv⟩ := hI
    repeat (first | refine xst ?_ | refine xar ?_ | refine xop ?_ | refine xlen ?_ | refine xld rfl ?_ | refine xsto rfl ?_ | refine xno ?_ | refine xt ?_ | refine xf ?_ | refine xnu ?_)
    refine xd (q := (i : Int) < (S'.pend.length : Int)) (fun h => ?_) (fun h => ?_)
    · have h : i < S'.pend.length := by omega
      refine xslf 2 rfl fun q1 q2 q3 => ?_
      obtain ⟨pb, po, rfl⟩ := q3 (by omega)
      have hg := penV_get h
      have hd : S'.pend.drop i = S'.pend[i] :: S'.pend.drop (i + 1) := List.drop_eq_getElem_cons h
      have hw := ok'.pend _ (List.getElem_mem h)
      rw [hd, List.foldl_cons] at hv
      generalize S'.pend[i] = w at hg hv hw
      obtain ⟨k, x⟩ := w
      simp only at hw hv
      repeat (first | refine xst ?_ | refine xar ?_ | refine xop ?_ | refine xlen ?_ | refine xld rfl ?_ | refine xsto rfl ?_ | refine xno ?_ | refine xt ?_ | refine xf ?_ | refine xnu ?_)
      refine xix ?_ (hk := h)
      refine xldla rfl (i * 65) (wrV (k, x)) rfl hg (by rw [penV_len]; show i * 65 + 65 ≤ _; omega) ?_
      refine xnew fun p4 => ?_
      refine xsta (cs := wrV (k, x)) rfl (wrV_len _) (wrV_one _) (wrV (k, x)) (put_all (by rw [wrV_len]; rfl)) (by rw [wrV_len]; exact Nat.le_of_ble_eq_true rfl) ?_
      refine xslf 1 rfl fun r1 r2 r3 => ?_
      obtain ⟨sb, so, rfl⟩ := r3 (by omega)
      repeat (first | refine xst ?_ | refine xar ?_ | refine xop ?_ | refine xlen ?_ | refine xld rfl ?_ | refine xsto rfl ?_ | refine xno ?_ | refine xt ?_ | refine xf ?_ | refine xnu ?_)
      refine xdraw ?_
      refine xdop 0 ?_
      refine xdop 1 ?_
      refine xdop 2 ?_
      refine xdld 3 rfl rfl ?_
      refine xdop 4 ?_
      refine xdld 5 rfl rfl ?_
      refine xdop 6 ?_
      refine xdld 7 rfl rfl ?_ (hv := wr_part (k, x) rfl rfl)
      refine xdix 8 ?_ (hk := hw)
      refine xdact 9 ?_
      refine xstla (cs := secE x) rfl (secE_len _) (secE_one _) (k * 64) (secV (s.set k x)) (secV_set s k (by omega) x) (by rw [secV_len, secE_len]; omega) ?_
      refine xst ?_
      refine xdend ?_
      repeat (first | refine xst ?_ | refine xar ?_ | refine xop ?_ | refine xlen ?_ | refine xld rfl ?_ | refine xsto rfl ?_ | refine xno ?_ | refine xt ?_ | refine xf ?_ | refine xnu ?_)
      exact G.fin (i + 1, s.set k x) ⟨⟨by show i + 1 ≤ _; omega, by show (s.set k x).length = _; rw [List.length_set, hsl], hv⟩, by show S'.pend.length - (i + 1) < S'.pend.length - i; omega⟩ (by repeat (first | exact trivial | refine ⟨rfl, ?_⟩)) (by first | exact Ent.refl _ | exact ent_pick)
    · rw [List.drop_eq_nil_of_le (by omega)] at hv
      have hv : S'.pend.foldl putS S'.sec = s := hv
      repeat (first | refine xst ?_ | refine xar ?_ | refine xop ?_ | refine xlen ?_ | refine xld rfl ?_ | refine xsto rfl ?_ | refine xno ?_ | refine xt ?_ | refine xf ?_ | refine xnu ?_)
      refine xreH 0 (sl 64 a1 S'.flushed.sec.length c1 (secV S'.flushed.sec)) rfl (by unfold Dk.flushed; simp only; rw [hv, hsl]) ?_
      refine G.sln 65 ?_
      refine xrep 2 (dkC S'.flushed a1 c1 none 0 a3 c3) rfl (by unfold dkC Dk.flushed; simp only; rw [hv, hsl]; rfl) ?_
      refine xfold (diskH d S'.flushed) [0, 1, 0, 1] rfl (disk_fold d S'.flushed a1 c1 none 0 a3 c3) ?_
      refine xretp [0] ?_
      rw [e]; exact ⟨rfl, rfl⟩

theorem darm_spec (d : Nat) (S : Dk) (n : Int) (sa : Option Addr) (sn scap : Nat) (sv : List Bool) (hsn : sn = sv.length) (hsl : sn ≤ 1000000) : Fun Tryz.prog 21 [.pointer (some ⟨d, 0, none⟩), .int .i64 n, .slice sa sn scap] [slR 1 sa sn scap (svV sv)] [diskH d S] fun _ H => H = [diskH d (S.arm n sv)] := by
  refine xenter (p := pg) Tryz.call21 Tryz.func21 fun C => ?_
  haveI := RP.slR (RP.of C (X := slR 1 sa sn scap (svV sv)) (by simp))
  refine G.disk d (S := S) fun a1 c1 a2 c2 a3 c3 => ?_
  cases ho : S.off with
  | true =>
    have e : S.arm n sv = S := by unfold Dk.arm; rw [if_pos ho]
    refine xrep 0 [.slice a1 S.sec.length c1, .slice a2 S.pend.length c2, .bool true, .bool S.armed, .int .i64 S.left, .slice a3 S.surv.length c3] rfl (by unfold dkC; rw [ho]) ?_
    repeat (first | refine xst ?_ | refine xar ?_ | refine xop ?_ | refine xlen ?_ | refine xld rfl ?_ | refine xsto rfl ?_ | refine xno ?_ | refine xt ?_ | refine xf ?_ | refine xnu ?_)
    refine xrep 0 (dkC S a1 c1 a2 c2 a3 c3) rfl (by unfold dkC; rw [ho]) ?_
    refine xfold (diskH d S) [0, 0, 0, 0] rfl (disk_fold d S a1 c1 a2 c2 a3 c3) ?_
    refine xretp [0] ?_
    rw [e]
  | false =>
    refine xrep 0 [.slice a1 S.sec.length c1, .slice a2 S.pend.length c2, .bool false, .bool S.armed, .int .i64 S.left, .slice a3 S.surv.length c3] rfl (by unfold dkC; rw [ho]) ?_
    repeat (first | refine xst ?_ | refine xar ?_ | refine xop ?_ | refine xlen ?_ | refine xld rfl ?_ | refine xsto rfl ?_ | refine xno ?_ | refine xt ?_ | refine xf ?_ | refine xnu ?_)
    refine xcall (disarm_spec d (.slice a1 S.sec.length c1) (.slice a2 S.pend.length c2) false S.armed S.left (.slice a3 S.surv.length c3)) ?_
    rintro v H rfl
    refine G.app ?_
    repeat (first | refine xst ?_ | refine xar ?_ | refine xop ?_ | refine xlen ?_ | refine xld rfl ?_ | refine xsto rfl ?_ | refine xno ?_ | refine xt ?_ | refine xf ?_ | refine xnu ?_)
    refine xd (q := n < 0) (fun h => ?_) (fun h => ?_)
    · have e : S.arm n sv = { S with armed := false, left := 0, surv := [] } := by unfold Dk.arm; rw [if_neg (by rw [ho]; decide), if_pos h]
      repeat (first | refine xst ?_ | refine xar ?_ | refine xop ?_ | refine xlen ?_ | refine xld rfl ?_ | refine xsto rfl ?_ | refine xno ?_ | refine xt ?_ | refine xf ?_ | refine xnu ?_)
      refine G.sln 1 ?_
      refine xrep 1 (dkC { S with armed := false, left := 0, surv := [] } a1 c1 a2 c2 none 0) rfl (by unfold dkC; rw [ho]; rfl) ?_
      refine xfold (diskH d { S with armed := false, left := 0, surv := [] }) [0, 1, 1, 0] rfl (disk_fold d { S with armed := false, left := 0, surv := [] } a1 c1 a2 c2 none 0) ?_
      refine xretp [0] ?_
      rw [e]
    · have e : S.arm n sv = { S with armed := true, left := n, surv := sv } := by unfold Dk.arm; rw [if_neg (by rw [ho]; decide), if_neg h]
      repeat (first | refine xst ?_ | refine xar ?_ | refine xop ?_ | refine xlen ?_ | refine xld rfl ?_ | refine xsto rfl ?_ | refine xno ?_ | refine xt ?_ | refine xf ?_ | refine xnu ?_)
      refine xcall (clonebool_spec sa sn scap sv hsn hsl) ?_
      rintro v H ⟨a4, c4, rfl, rfl⟩
      refine G.app ?_
      repeat (first | refine xst ?_ | refine xar ?_ | refine xop ?_ | refine xlen ?_ | refine xld rfl ?_ | refine xsto rfl ?_ | refine xno ?_ | refine xt ?_ | refine xf ?_ | refine xnu ?_)
      refine xrep 1 (dkC { S with armed := true, left := n, surv := sv } a1 c1 a2 c2 a4 c4) rfl (by unfold dkC; rw [ho]) ?_
      refine xfold (diskH d { S with armed := true, left := n, surv := sv }) [0, 1, 1, 0] rfl (disk_fold d { S with armed := true, left := n, surv := sv } a1 c1 a2 c2 a4 c4) ?_
      refine xdonep [0] ?_
      rw [e]
theorem dpower_spec (d : Nat) (S : Dk) : Fun Tryz.prog 22 [.pointer (some ⟨d, 0, none⟩)] [] [diskH d S] fun _ H => H = [diskH d S.power] := by
  refine xenter (p := pg) Tryz.call22 Tryz.func22 fun C => ?_
  refine G.disk d (S := S) fun a1 c1 a2 c2 a3 c3 => ?_
  repeat (first | refine xst ?_ | refine xar ?_ | refine xop ?_ | refine xlen ?_ | refine xld rfl ?_ | refine xsto rfl ?_ | refine xno ?_ | refine xt ?_ | refine xf ?_ | refine xnu ?_)
  refine xcall (disarm_spec d (.slice a1 S.sec.length c1) (.slice none 0 0) false S.armed S.left (.slice a3 S.surv.length c3)) ?_
  rintro v H rfl
  refine G.app ?_
  repeat (first | refine xst ?_ | refine xar ?_ | refine xop ?_ | refine xlen ?_ | refine xld rfl ?_ | refine xsto rfl ?_ | refine xno ?_ | refine xt ?_ | refine xf ?_ | refine xnu ?_)
  refine G.sln 65 ?_
  refine G.sln 1 ?_
  refine xrep 2 (dkC S.power a1 c1 none 0 none 0) rfl rfl ?_
  refine xfold (diskH d S.power) [0, 2, 1, 0] rfl (disk_fold d S.power a1 c1 none 0 none 0) ?_
  refine xdonep [0] ?_
  rfl
theorem dimage_spec (d : Nat) (S : Dk) (ok : S.ok) : Fun Tryz.prog 19 [.pointer (some ⟨d, 0, none⟩)] [diskH d S] [] fun v H => ∃ a cap, v = .slice a S.image.length cap ∧ H = [sl 1 a S.image.length cap (bsV S.image)] := by
  refine xenter (p := pg) Tryz.call19 Tryz.func19 fun C => ?_
  obtain ⟨a1, c1, a2, c2, a3, c3, hb, h64, h65, h1⟩ := disk_rd (RP.of C (X := diskH d S) (by simp))
  have hfew := ok.few
  have hlen : ∀ l : List Sec, (l.flatMap (·.1)).length = l.length * 64 := fun l => by
    induction l with
    | nil => rfl
    | cons x l ih => rw [List.flatMap_cons, List.length_append, ih, x.2, List.length_cons]; omega
  repeat (first | refine xst ?_ | refine xar ?_ | refine xop ?_ | refine xlen ?_ | refine xld rfl ?_ | refine xsto rfl ?_ | refine xno ?_ | refine xt ?_ | refine xf ?_ | refine xnu ?_)
  refine xmake 0 (S.sec.length * 64) rfl rfl (by rw [Int.natCast_mul]; rfl) (Nat.zero_le _) (by omega) (by omega) fun b => ?_
  repeat (first | refine xst ?_ | refine xar ?_ | refine xop ?_ | refine xlen ?_ | refine xld rfl ?_ | refine xsto rfl ?_ | refine xno ?_ | refine xt ?_ | refine xf ?_ | refine xnu ?_)
  refine G.loop (σ := Nat × Option Addr × Nat) (fun s__ => [(0, .pointer (some ⟨d, 0, none⟩)), (3, .slice s__.2.1 (s__.1 * 64) s__.2.2), (16, .slice a1 S.sec.length c1), (17, .int .i64 (S.sec.length : Int)), (18, .int .i64 (s__.1 : Int))]) (fun s__ => [sl 1 s__.2.1 (s__.1 * 64) s__.2.2 (bsV ((S.sec.take s__.1).flatMap (·.1)))]) (fun s__ => s__.1 ≤ S.sec.length) (fun s__ => S.sec.length - s__.1) (0, some ⟨b, 0, none⟩, S.sec.length * 64) (Nat.zero_le _) (by repeat (first | exact trivial | refine ⟨rfl, ?_⟩)) (by first | exact Ent.refl _ | exact ent_pick) ?_
  rintro ⟨i, a, cap⟩ hI
  have hI : i ≤ S.sec.length := hI
  show G C _ [(0, .pointer (some ⟨d, 0, none⟩)), (3, .slice a (i * 64) cap), (16, .slice a1 S.sec.length c1), (17, .int .i64 (S.sec.length : Int)), (18, .int .i64 (i : Int))] [sl 1 a (i * 64) cap (bsV ((S.sec.take i).flatMap (·.1)))]
  repeat (first | refine xst ?_ | refine xar ?_ | refine xop ?_ | refine xlen ?_ | refine xld rfl ?_ | refine xsto rfl ?_ | refine xno ?_ | refine xt ?_ | refine xf ?_ | refine xnu ?_)
  refine xd (q := (i : Int) < (S.sec.length : Int)) (fun h => ?_) (fun h => ?_)
  · have h : i < S.sec.length := by omega
    obtain ⟨sb, so, rfl, hsb⟩ := h64.some (by omega)
    have hg := secV_get h
    have hst : (S.sec.take (i + 1)).flatMap (·.1) = (S.sec.take i).flatMap (·.1) ++ S.sec[i].1 := by rw [List.take_succ_eq_append_getElem h, List.flatMap_append, List.flatMap_cons, List.flatMap_nil, List.append_nil]
    generalize S.sec[i] = x at hg hst
    repeat (first | refine xst ?_ | refine xar ?_ | refine xop ?_ | refine xlen ?_ | refine xld rfl ?_ | refine xsto rfl ?_ | refine xno ?_ | refine xt ?_ | refine xf ?_ | refine xnu ?_)
    refine xix ?_ (hk := h)
    refine xldla rfl (i * 64) (secE x) rfl hg (by rw [secV_len]; show i * 64 + 64 ≤ _; omega) ?_
    refine xnew fun p5 => ?_
    refine xsta (cs := secE x) rfl (secE_len _) (secE_one _) (secE x) (put_all (by rw [secE_len]; rfl)) (by rw [secE_len]; exact Nat.le_of_ble_eq_true rfl) ?_
    repeat (first | refine xst ?_ | refine xar ?_ | refine xop ?_ | refine xlen ?_ | refine xld rfl ?_ | refine xsto rfl ?_ | refine xno ?_ | refine xt ?_ | refine xf ?_ | refine xnu ?_)
    refine xslice 0 64 rfl rfl rfl (by omega) (by omega) ?_
    refine xE 23 (.slice (some ⟨p5, 0, none⟩) 64 64) rfl rfl ?_
    refine xapp (bsV ((S.sec.take i).flatMap (·.1))) rfl (SrcOk.blk (ys := secE x) (by rw [List.drop_zero, List.take_of_length_le (by rw [secE_len]; decide)]) (by rw [secE_len]; decide) (secE_one x)) (by omega) fun a' cap' => ?_
    repeat (first | refine xst ?_ | refine xar ?_ | refine xop ?_ | refine xlen ?_ | refine xld rfl ?_ | refine xsto rfl ?_ | refine xno ?_ | refine xt ?_ | refine xf ?_ | refine xnu ?_)
    refine G.fin (i + 1, a', cap') ⟨by show i + 1 ≤ _; omega, by show S.sec.length - (i + 1) < S.sec.length - i; omega⟩ ⟨rfl, by rw [Nat.add_mul]; rfl, rfl, rfl, rfl, trivial⟩ ?_
    show Ent _ [sl 1 a' ((i + 1) * 64) cap' (bsV ((S.sec.take (i + 1)).flatMap (·.1)))]
    rw [hst, bsV_append, Nat.add_mul, Nat.one_mul, show bsV x.1 = secE x from rfl]; exact ent_pick
  · obtain rfl : i = S.sec.length := by omega
    rw [List.take_length]
    repeat (first | refine xst ?_ | refine xar ?_ | refine xop ?_ | refine xlen ?_ | refine xld rfl ?_ | refine xsto rfl ?_ | refine xno ?_ | refine xt ?_ | refine xf ?_ | refine xnu ?_)
    refine xretp [0] ?_
    refine ⟨a, cap, ?_, ?_⟩
    · rw [show S.image = S.sec.flatMap (·.1) from rfl, hlen]; rfl
    · rw [show S.image = S.sec.flatMap (·.1) from rfl, hlen]
end Go.Proofs.YtdalmiacjicgpaaGreatDoor

/- extent. -/
namespace Go.Proofs.YtdalmiacjicgpaaGreatDoor
open Go.W

def liesF (f c n : Int) : Bool := decide (1 ≤ c ∧ 0 ≤ f ∧ f ≤ n ∧ c ≤ n - f)
theorem lies_spec (f c n : Int) (h0 : 0 ≤ n) (hn : n ≤ 1000000000) : Fun Tryz.prog 70 [.agg #[.int .i64 f, .int .i64 c], .int .i64 n] [] [] fun v H => v = .bool (liesF f c n) ∧ H = [] := by
  refine xenter (p := pg) Tryz.call70 Tryz.func70 fun C => ?_
  have hno : ∀ b : Bool, ((1 ≤ c ∧ 0 ≤ f ∧ f ≤ n ∧ c ≤ n - f) ↔ b = true) → liesF f c n = b := fun b h => by
    unfold liesF
    cases b with
    | true => exact decide_eq_true (h.2 rfl)
    | false => exact decide_eq_false fun h' => by have := h.1 h'; cases this
  refine xst ?_
  refine xst ?_
  refine xnew fun p => ?_
  refine xrep 0 [.int .i64 f, .int .i64 c] rfl rfl ?_
  repeat (refine xnot 7 ?_; first | refine xst ?_ | refine xar ?_ | refine xop ?_ | refine xlen ?_ | refine xld rfl ?_ | refine xsto rfl ?_ | refine xno ?_ | refine xt ?_ | refine xf ?_ | refine xnu ?_)
  by_cases h1 : 1 ≤ c
  · refine xE 7 (.bool true) rfl (congrArg Value.bool (decide_eq_true h1)) ?_
    repeat (refine xnot 11 ?_; first | refine xst ?_ | refine xar ?_ | refine xop ?_ | refine xlen ?_ | refine xld rfl ?_ | refine xsto rfl ?_ | refine xno ?_ | refine xt ?_ | refine xf ?_ | refine xnu ?_)
    by_cases h2 : 0 ≤ f
    · refine xE 11 (.bool true) rfl (congrArg Value.bool (decide_eq_true h2)) ?_
      repeat (refine xnot 17 ?_; first | refine xst ?_ | refine xar ?_ | refine xop ?_ | refine xlen ?_ | refine xld rfl ?_ | refine xsto rfl ?_ | refine xno ?_ | refine xt ?_ | refine xf ?_ | refine xnu ?_)
      by_cases h3 : f ≤ n
      · refine xE 17 (.bool true) rfl (congrArg Value.bool (decide_eq_true h3)) ?_
        repeat (refine xnot 25 ?_; first | refine xst ?_ | refine xar ?_ | refine xop ?_ | refine xlen ?_ | refine xld rfl ?_ | refine xsto rfl ?_ | refine xno ?_ | refine xt ?_ | refine xf ?_ | refine xnu ?_)
        refine xE 25 (.int .i64 (n - f)) rfl (by first | rfl | exact congrArg (Value.int .i64) (wrap_in (k := .i64) ⟨by omega, by omega⟩)) ?_
        repeat (first | refine xst ?_ | refine xar ?_ | refine xop ?_ | refine xlen ?_ | refine xld rfl ?_ | refine xsto rfl ?_ | refine xno ?_ | refine xt ?_ | refine xf ?_ | refine xnu ?_)
        refine xret [] ⟨?_, rfl⟩
        refine congrArg Value.bool ?_
        unfold liesF
        exact decide_eq_decide.2 ⟨fun h => ⟨h1, h2, h3, h⟩, fun h => h.2.2.2⟩
      · refine xE 17 (.bool false) rfl (congrArg Value.bool (decide_eq_false h3)) ?_
        repeat (first | refine xst ?_ | refine xar ?_ | refine xop ?_ | refine xlen ?_ | refine xld rfl ?_ | refine xsto rfl ?_ | refine xno ?_ | refine xt ?_ | refine xf ?_ | refine xnu ?_)
        refine xret [] ⟨?_, rfl⟩
        rw [hno false ⟨fun h => absurd h.2.2.1 h3, fun h => by cases h⟩]; rfl
    · refine xE 11 (.bool false) rfl (congrArg Value.bool (decide_eq_false h2)) ?_
      repeat (first | refine xst ?_ | refine xar ?_ | refine xop ?_ | refine xlen ?_ | refine xld rfl ?_ | refine xsto rfl ?_ | refine xno ?_ | refine xt ?_ | refine xf ?_ | refine xnu ?_)
      refine xret [] ⟨?_, rfl⟩
      rw [hno false ⟨fun h => absurd h.2.1 h2, fun h => by cases h⟩]; rfl
  · refine xE 7 (.bool false) rfl (congrArg Value.bool (decide_eq_false h1)) ?_
    repeat (first | refine xst ?_ | refine xar ?_ | refine xop ?_ | refine xlen ?_ | refine xld rfl ?_ | refine xsto rfl ?_ | refine xno ?_ | refine xt ?_ | refine xf ?_ | refine xnu ?_)
    refine xret [] ⟨?_, rfl⟩
    rw [hno false ⟨fun h => absurd h.1 h1, fun h => by cases h⟩]; rfl

def ptC (f c d : Nat) : List Value := [.int .i64 (f : Int), .int .i64 (c : Int), .pointer (some ⟨d, 0, none⟩)]
theorem xnewe_spec (d : Nat) (S : Dk) (ok : S.ok) (f c : Nat) (h : f + c ≤ S.sec.length) (hc : 1 ≤ c) : Fun Tryz.prog 32 [.pointer (some ⟨d, 0, none⟩), .agg #[.int .i64 (f : Int), .int .i64 (c : Int)]] [diskH d S] [] fun v H => ∃ p : Nat, v = .tuple #[.pointer (some ⟨p, 0, none⟩), .int .i64 0] ∧ H = [pts p (ptC f c d)] := by
  refine xenter (p := pg) Tryz.call32 Tryz.func32 fun C => ?_
  haveI : RP C (diskH d S) := RP.of C (by simp)
  have hf := ok.few
  have hl : liesF (f : Int) (c : Int) (S.sec.length : Int) = true := decide_eq_true ⟨by omega, by omega, by omega, by omega⟩
  refine xst ?_
  refine xst ?_
  refine xnew fun b => ?_
  refine xrep 0 [.int .i64 (f : Int), .int .i64 (c : Int)] rfl rfl ?_
  repeat (first | refine xst ?_ | refine xar ?_ | refine xop ?_ | refine xlen ?_ | refine xld rfl ?_ | refine xsto rfl ?_ | refine xno ?_ | refine xt ?_ | refine xf ?_ | refine xnu ?_)
  refine xdraw ?_
  refine xdld 0 rfl rfl ?_
  refine xdop 1 ?_
  refine xdact 2 ?_
  refine xcall (dsize_spec d S) ?_
  rintro v H ⟨rfl, rfl⟩
  refine G.app ?_
  refine xst ?_
  refine xdact 3 ?_
  refine xcall (lies_spec (f : Int) (c : Int) (S.sec.length : Int) (by omega) (by omega)) ?_
  rintro v H ⟨rfl, rfl⟩
  refine G.app ?_
  rw [hl]
  refine xst ?_
  refine xdop 4 ?_
  refine xdend ?_
  repeat (first | refine xst ?_ | refine xar ?_ | refine xop ?_ | refine xlen ?_ | refine xld rfl ?_ | refine xsto rfl ?_ | refine xno ?_ | refine xt ?_ | refine xf ?_ | refine xnu ?_)
  refine xnew fun p => ?_
  refine xrep 0 (ptC f c d) rfl rfl ?_
  repeat (first | refine xst ?_ | refine xar ?_ | refine xop ?_ | refine xlen ?_ | refine xld rfl ?_ | refine xsto rfl ?_ | refine xno ?_ | refine xt ?_ | refine xf ?_ | refine xnu ?_)
  refine xretp [0] ?_
  exact ⟨p, rfl, rfl⟩
theorem psize_spec (p f c d : Nat) : Fun Tryz.prog 33 [.pointer (some ⟨p, 0, none⟩)] [rdb p (ptC f c d)] [] fun v H => v = .int .i64 (c : Int) ∧ H = [] := by
  refine xenter (p := pg) Tryz.call33 Tryz.func33 fun C => ?_
  haveI := RP.rdb (RP.of C (X := rdb p (ptC f c d)) (by simp))
  repeat (first | refine xst ?_ | refine xar ?_ | refine xop ?_ | refine xlen ?_ | refine xld rfl ?_ | refine xsto rfl ?_ | refine xno ?_ | refine xt ?_ | refine xf ?_ | refine xnu ?_)
  exact xret [] ⟨rfl, rfl⟩
theorem ppart_spec (p f c d f' c' : Nat) (h : f' + c' ≤ c) (hc : 1 ≤ c') (hf : f ≤ 1000000) (hcc : c ≤ 1000000) : Fun Tryz.prog 34 [.pointer (some ⟨p, 0, none⟩), .agg #[.int .i64 (f' : Int), .int .i64 (c' : Int)]] [rdb p (ptC f c d)] []
    fun v H => ∃ p' : Nat, v = .tuple #[.pointer (some ⟨p', 0, none⟩), .int .i64 0] ∧ H = [pts p' (ptC (f + f') c' d)] := by
  refine xenter (p := pg) Tryz.call34 Tryz.func34 fun C => ?_
  haveI := RP.rdb (RP.of C (X := rdb p (ptC f c d)) (by simp))
  have hl : liesF (f' : Int) (c' : Int) (c : Int) = true := decide_eq_true ⟨by omega, by omega, by omega, by omega⟩
  refine xst ?_
  refine xst ?_
  refine xnew fun b => ?_
  refine xrep 0 [.int .i64 (f' : Int), .int .i64 (c' : Int)] rfl rfl ?_
  repeat (first | refine xst ?_ | refine xar ?_ | refine xop ?_ | refine xlen ?_ | refine xld rfl ?_ | refine xsto rfl ?_ | refine xno ?_ | refine xt ?_ | refine xf ?_ | refine xnu ?_)
  refine xdraw ?_
  refine xdld 0 rfl rfl ?_
  refine xdop 1 ?_
  refine xdop 2 ?_
  refine xdop 3 ?_
  refine xdop 4 ?_
  refine xdld 5 rfl rfl ?_
  refine xdact 6 ?_
  refine xcall (lies_spec (f' : Int) (c' : Int) (c : Int) (by omega) (by omega)) ?_
  rintro v H ⟨rfl, rfl⟩
  refine G.app ?_
  rw [hl]
  refine xst ?_
  refine xdop 7 ?_
  refine xdend ?_
  repeat (first | refine xst ?_ | refine xar ?_ | refine xop ?_ | refine xlen ?_ | refine xld rfl ?_ | refine xsto rfl ?_ | refine xno ?_ | refine xt ?_ | refine xf ?_ | refine xnu ?_)
  refine xdraw ?_
  refine xdop 0 ?_
  refine xdop 1 ?_
  refine xdop 2 ?_
  refine xdop 3 ?_
  refine xdld 4 rfl rfl ?_
  refine xdop 5 ?_
  refine xdld 6 rfl rfl ?_
  (first | refine xdar 7 ?_ | refine xdop 7 ?_)
  refine xE 21 (.int .i64 ((f + f' : Nat) : Int)) rfl (by first | rfl | exact congrArg (Value.int .i64) (wrap_in (k := .i64) ⟨by omega, by omega⟩)) ?_
  refine xdop 8 ?_
  refine xdld 9 rfl rfl ?_
  refine xdop 10 ?_
  refine xdop 11 ?_
  refine xdop 12 ?_
  refine xdop 13 ?_
  refine xdld 14 rfl rfl ?_
  refine xdop 15 ?_
  refine xdact 16 ?_
  refine xnew fun p' => ?_
  refine xrep 0 (ptC (f + f') c' d) rfl rfl ?_
  refine xst ?_
  refine xdop 17 ?_
  refine xdop 18 ?_
  refine xdend ?_
  repeat (first | refine xst ?_ | refine xar ?_ | refine xop ?_ | refine xlen ?_ | refine xld rfl ?_ | refine xsto rfl ?_ | refine xno ?_ | refine xt ?_ | refine xf ?_ | refine xnu ?_)
  refine xretp [0] ?_
  exact ⟨p', rfl, rfl⟩
theorem place_spec (f c : Nat) (at_ : Int) (hf : f ≤ 1000000) (hc : c ≤ 1000000) : Fun Tryz.prog 122 [.agg #[.int .i64 (f : Int), .int .i64 (c : Int)], .int .i64 at_] [] []
    fun v H => v = (if 0 ≤ at_ ∧ at_ < c then .tuple #[.int .i64 (f + at_), .int .i64 0] else .tuple #[.int .i64 0, .int .i64 4]) ∧ H = [] := by
  refine xenter (p := pg) Tryz.call122 Tryz.func122 fun C => ?_
  refine xst ?_
  refine xst ?_
  refine xnew fun p => ?_
  refine xrep 0 [.int .i64 (f : Int), .int .i64 (c : Int)] rfl rfl ?_
  repeat (refine xnot 7 ?_; first | refine xst ?_ | refine xar ?_ | refine xop ?_ | refine xlen ?_ | refine xld rfl ?_ | refine xsto rfl ?_ | refine xno ?_ | refine xt ?_ | refine xf ?_ | refine xnu ?_)
  by_cases h1 : at_ < 0
  · refine xE 7 (.bool true) rfl (congrArg Value.bool (decide_eq_true h1)) ?_
    repeat (first | refine xst ?_ | refine xar ?_ | refine xop ?_ | refine xlen ?_ | refine xld rfl ?_ | refine xsto rfl ?_ | refine xno ?_ | refine xt ?_ | refine xf ?_ | refine xnu ?_)
    refine xret [] ⟨?_, rfl⟩
    rw [if_neg (by omega)]; rfl
  · refine xE 7 (.bool false) rfl (congrArg Value.bool (decide_eq_false h1)) ?_
    repeat (refine xnot 12 ?_; first | refine xst ?_ | refine xar ?_ | refine xop ?_ | refine xlen ?_ | refine xld rfl ?_ | refine xsto rfl ?_ | refine xno ?_ | refine xt ?_ | refine xf ?_ | refine xnu ?_)
    by_cases h2 : (c : Int) ≤ at_
    · refine xE 12 (.bool true) rfl (congrArg Value.bool (decide_eq_true h2)) ?_
      repeat (first | refine xst ?_ | refine xar ?_ | refine xop ?_ | refine xlen ?_ | refine xld rfl ?_ | refine xsto rfl ?_ | refine xno ?_ | refine xt ?_ | refine xf ?_ | refine xnu ?_)
      refine xret [] ⟨?_, rfl⟩
      rw [if_neg (by omega)]; rfl
    · refine xE 12 (.bool false) rfl (congrArg Value.bool (decide_eq_false h2)) ?_
      repeat (refine xnot 17 ?_; first | refine xst ?_ | refine xar ?_ | refine xop ?_ | refine xlen ?_ | refine xld rfl ?_ | refine xsto rfl ?_ | refine xno ?_ | refine xt ?_ | refine xf ?_ | refine xnu ?_)
      refine xE 17 (.int .i64 (9223372036854775807 - at_)) rfl (by first | rfl | exact congrArg (Value.int .i64) (wrap_in (k := .i64) ⟨by omega, by omega⟩)) ?_
      repeat (refine xnot 18 ?_; first | refine xst ?_ | refine xar ?_ | refine xop ?_ | refine xlen ?_ | refine xld rfl ?_ | refine xsto rfl ?_ | refine xno ?_ | refine xt ?_ | refine xf ?_ | refine xnu ?_)
      refine xE 18 (.bool false) rfl (congrArg Value.bool (decide_eq_false (by omega))) ?_
      repeat (refine xnot 22 ?_; first | refine xst ?_ | refine xar ?_ | refine xop ?_ | refine xlen ?_ | refine xld rfl ?_ | refine xsto rfl ?_ | refine xno ?_ | refine xt ?_ | refine xf ?_ | refine xnu ?_)
      refine xE 22 (.int .i64 ((f : Int) + at_)) rfl (by first | rfl | exact congrArg (Value.int .i64) (wrap_in (k := .i64) ⟨by omega, by omega⟩)) ?_
      repeat (first | refine xst ?_ | refine xar ?_ | refine xop ?_ | refine xlen ?_ | refine xld rfl ?_ | refine xsto rfl ?_ | refine xno ?_ | refine xt ?_ | refine xf ?_ | refine xnu ?_)
      refine xret [] ⟨?_, rfl⟩
      rw [if_pos (by omega)]; rfl

def preadF (S : Dk) (f c : Nat) (at_ : Int) : Int × List UInt8 := if 0 ≤ at_ ∧ at_ < c then S.read (f + at_) else (4, [])
def pwriteF (S : Dk) (f c : Nat) (at_ : Int) (b : List UInt8) : Int × Dk := if 0 ≤ at_ ∧ at_ < c then S.write (f + at_) b else (4, S)
theorem pread_spec (p f c d : Nat) (S : Dk) (at_ : Int) (hp : S.pend.length ≤ 1000000) (hf : f ≤ 1000000) (hc : c ≤ 1000000) : Fun Tryz.prog 72 [.pointer (some ⟨p, 0, none⟩), .int .i64 at_] [rdb p (ptC f c d), diskH d S] []
    fun v H => ∃ a cap, v = .tuple #[.slice a (preadF S f c at_).2.length cap, .int .i64 (preadF S f c at_).1] ∧ H = [sl 1 a (preadF S f c at_).2.length cap (bsV (preadF S f c at_).2)] := by
  refine xenter (p := pg) Tryz.call72 Tryz.func72 fun C => ?_
  haveI := RP.rdb (RP.of C (X := rdb p (ptC f c d)) (by simp))
  haveI : RP C (diskH d S) := RP.of C (by simp)
  repeat (first | refine xst ?_ | refine xar ?_ | refine xop ?_ | refine xlen ?_ | refine xld rfl ?_ | refine xsto rfl ?_ | refine xno ?_ | refine xt ?_ | refine xf ?_ | refine xnu ?_)
  refine xcall (place_spec f c at_ hf hc) ?_
  rintro v H ⟨rfl, rfl⟩
  refine G.app ?_
  by_cases h : 0 ≤ at_ ∧ at_ < c
  · have e : preadF S f c at_ = S.read (f + at_) := by unfold preadF; rw [if_pos h]
    rw [if_pos h]
    repeat (first | refine xst ?_ | refine xar ?_ | refine xop ?_ | refine xlen ?_ | refine xld rfl ?_ | refine xsto rfl ?_ | refine xno ?_ | refine xt ?_ | refine xf ?_ | refine xnu ?_)
    refine xcall (dread_spec d S (f + at_) hp) ?_
    rintro v H ⟨a, cap, rfl, rfl⟩
    refine G.app ?_
    repeat (first | refine xst ?_ | refine xar ?_ | refine xop ?_ | refine xlen ?_ | refine xld rfl ?_ | refine xsto rfl ?_ | refine xno ?_ | refine xt ?_ | refine xf ?_ | refine xnu ?_)
    refine xretp [0] ?_
    rw [e]
    exact ⟨a, cap, rfl, rfl⟩
  · have e : preadF S f c at_ = (4, []) := by unfold preadF; rw [if_neg h]
    rw [if_neg h]
    repeat (first | refine xst ?_ | refine xar ?_ | refine xop ?_ | refine xlen ?_ | refine xld rfl ?_ | refine xsto rfl ?_ | refine xno ?_ | refine xt ?_ | refine xf ?_ | refine xnu ?_)
    refine G.sln 1 ?_
    refine xretp [0] ?_
    rw [e]
    exact ⟨none, 0, rfl, rfl⟩
theorem pwrite_spec (p f c d : Nat) (S : Dk) (ok : S.ok) (at_ : Int) (hp : S.pend.length ≤ 1000000) (hf : f ≤ 1000000) (hc : c ≤ 1000000) (a : Option Addr) (n cap : Nat) (b : List UInt8) (hn : n = b.length) :
    Fun Tryz.prog 88 [.pointer (some ⟨p, 0, none⟩), .int .i64 at_, .slice a n cap] [rdb p (ptC f c d), slR 1 a n cap (bsV b)] [diskH d S] fun v H => v = .int .i64 (pwriteF S f c at_ b).1 ∧ H = [diskH d (pwriteF S f c at_ b).2] := by
  refine xenter (p := pg) Tryz.call88 Tryz.func88 fun C => ?_
  haveI := RP.rdb (RP.of C (X := rdb p (ptC f c d)) (by simp))
  haveI := RP.slR (RP.of C (X := slR 1 a n cap (bsV b)) (by simp))
  repeat (first | refine xst ?_ | refine xar ?_ | refine xop ?_ | refine xlen ?_ | refine xld rfl ?_ | refine xsto rfl ?_ | refine xno ?_ | refine xt ?_ | refine xf ?_ | refine xnu ?_)
  refine xcall (place_spec f c at_ hf hc) ?_
  rintro v H ⟨rfl, rfl⟩
  refine G.app ?_
  by_cases h : 0 ≤ at_ ∧ at_ < c
  · have e : pwriteF S f c at_ b = S.write (f + at_) b := by unfold pwriteF; rw [if_pos h]
    rw [if_pos h]
    repeat (first | refine xst ?_ | refine xar ?_ | refine xop ?_ | refine xlen ?_ | refine xld rfl ?_ | refine xsto rfl ?_ | refine xno ?_ | refine xt ?_ | refine xf ?_ | refine xnu ?_)
    refine xcall (dwrite_spec d S ok hp (f + at_) a n cap b hn) ?_
    rintro v H ⟨rfl, rfl⟩
    refine G.app ?_
    repeat (first | refine xst ?_ | refine xar ?_ | refine xop ?_ | refine xlen ?_ | refine xld rfl ?_ | refine xsto rfl ?_ | refine xno ?_ | refine xt ?_ | refine xf ?_ | refine xnu ?_)
    refine xretp [0] ?_
    rw [e]
    exact ⟨rfl, rfl⟩
  · have e : pwriteF S f c at_ b = (4, S) := by unfold pwriteF; rw [if_neg h]
    rw [if_neg h]
    repeat (first | refine xst ?_ | refine xar ?_ | refine xop ?_ | refine xlen ?_ | refine xld rfl ?_ | refine xsto rfl ?_ | refine xno ?_ | refine xt ?_ | refine xf ?_ | refine xnu ?_)
    refine xretp [0] ?_
    rw [e]
    exact ⟨rfl, rfl⟩
theorem pflush_spec (p f c d : Nat) (S : Dk) (ok : S.ok) (hp : S.pend.length ≤ 1000000) : Fun Tryz.prog 89 [.pointer (some ⟨p, 0, none⟩)] [rdb p (ptC f c d)] [diskH d S] fun v H => v = .int .i64 S.flush.1 ∧ H = [diskH d S.flush.2] := by
  refine xenter (p := pg) Tryz.call89 Tryz.func89 fun C => ?_
  haveI := RP.rdb (RP.of C (X := rdb p (ptC f c d)) (by simp))
  repeat (first | refine xst ?_ | refine xar ?_ | refine xop ?_ | refine xlen ?_ | refine xld rfl ?_ | refine xsto rfl ?_ | refine xno ?_ | refine xt ?_ | refine xf ?_ | refine xnu ?_)
  refine xcall (dflush_spec d S ok hp) ?_
  rintro v H ⟨rfl, rfl⟩
  refine G.app ?_
  repeat (first | refine xst ?_ | refine xar ?_ | refine xop ?_ | refine xlen ?_ | refine xld rfl ?_ | refine xsto rfl ?_ | refine xno ?_ | refine xt ?_ | refine xf ?_ | refine xnu ?_)
  refine xretp [0] ?_
  exact ⟨rfl, rfl⟩
end Go.Proofs.YtdalmiacjicgpaaGreatDoor
