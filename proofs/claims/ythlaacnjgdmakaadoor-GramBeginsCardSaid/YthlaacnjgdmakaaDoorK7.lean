/- Part of the proof: LIb, LIc, LJo, LCh, LDp, LDe, LBu, LBd -/
import Derived.Test.YthlaacnjgdmakaaDoorK6
import Derived.Test.YthlaacnjgdmakaaDoorK2
import Derived.Test.YthlaacnjgdmakaaDoorK5
import Derived.Lib.Builder
import Derived.Lib.UnsafeStr
import Derived.Laws.Externs
/- image: programs. -/
namespace Go.Proofs.YthlaacnjgdmakaaDoor
open Go.W

theorem eq_sum : EqK pg 37 ty37 :=
  ⟨EqT.arr (j := ty5) ok37 rfl ok5 rfl (.inr rfl) (EqT.int ok5 rfl rfl 9998), rfl, by kernel_rfl⟩

/-- What is wrong with an image: the fault. -/
def progF (m : Man) (bs : List UInt8) : List (Int × Int) :=
  if m.ok = false then [(1, 0)]
  else if (bs.length : Int) < m.size then [(2, bs.length)]
  else if (bs.length : Int) > m.size then [(7, m.size)]
  else if shaF bs ≠ m.sum then [(8, 0)]
  else inF (decF bs) m.ver.toNat
def progL (m : Man) (bs : List UInt8) : List Ins := if progF m bs = [] then listI bs else []

theorem program_spec (m : Man) (hs : m.sum.length = 32) (a : Option Addr) (n cap : Nat) (bs : List UInt8) (hn : n = bs.length) (hl : n ≤ 1000000) : Fun Tryd.prog 42 [.agg m.v.toArray, .slice a n cap] [gErr, kV, iniV, slR 1 a n cap (bsV bs)] []
    fun v H => ∃ a' cap' e, v = .tuple #[.slice a' (progL m bs).length cap', e] ∧ oneC e = true ∧ H = [sl 4 a' (progL m bs).length cap' (inssV (progL m bs)), chain (progF m bs) e] := by
  subst hn
  refine xenter (p := pg) Tryd.call42 Tryd.func42 fun C => ?_
  haveI : RP C gErr := RP.of C (by simp)
  haveI : RP C kV := RP.of C (by simp)
  haveI : RP C iniV := RP.of C (by simp)
  haveI hr := RP.slR (RP.of C (X := slR 1 a bs.length cap (bsV bs)) (by simp))
  have hml := Man.v_len hs
  repeat (first | refine xst ?_ | refine xar ?_ | refine xop ?_ | refine xlen ?_ | refine xld rfl ?_ | refine xsto rfl ?_ | refine xno ?_ | refine xt ?_ | refine xf ?_)
  refine xnew fun b => ?_
  refine xrep 0 m.v rfl rfl ?_
  repeat (first | refine xst ?_ | refine xar ?_ | refine xop ?_ | refine xlen ?_ | refine xld rfl ?_ | refine xsto rfl ?_ | refine xno ?_ | refine xt ?_ | refine xf ?_)
  refine xld rfl ?_ (hv := partF_all rfl hml)
  refine xcall (valid_spec m hs) ?_
  rintro v H ⟨rfl, rfl⟩
  refine G.app ?_
  repeat (first | refine xst ?_ | refine xar ?_ | refine xop ?_ | refine xlen ?_ | refine xld rfl ?_ | refine xsto rfl ?_ | refine xno ?_ | refine xt ?_ | refine xf ?_)
  refine xbb 8 (fun h1 => ?_) (fun h1 => ?_)
  · have h1 : m.ok = false := by simpa using h1
    have e1 : progF m bs = newF 1 0 := by unfold progF; rw [if_pos h1]; rfl
    have e2 : progL m bs = [] := by unfold progL; rw [e1]; rfl
    repeat (first | refine xst ?_ | refine xar ?_ | refine xop ?_ | refine xlen ?_ | refine xld rfl ?_ | refine xsto rfl ?_ | refine xno ?_ | refine xt ?_ | refine xf ?_)
    refine xcall (new_spec 1 0) ?_
    rintro v H rfl
    refine G.app ?_
    refine G.fact (chain (newF 1 0) v) (P := oneC v = true) (fun w F h => chain_one h) fun ho => ?_
    repeat (first | refine xst ?_ | refine xar ?_ | refine xop ?_ | refine xlen ?_ | refine xld rfl ?_ | refine xsto rfl ?_ | refine xno ?_ | refine xt ?_ | refine xf ?_)
    refine G.sln 4 ?_
    refine xretp [0, 0] ?_
    rw [e1, e2]
    exact ⟨none, 0, v, rfl, ho, rfl⟩
  · have h1 : m.ok = true := by simpa using h1
    have hsz : 4 ≤ m.size ∧ m.size ≤ 512 := by
      unfold Man.ok at h1; rw [decide_eq_true_eq] at h1; omega
    repeat (first | refine xst ?_ | refine xar ?_ | refine xop ?_ | refine xlen ?_ | refine xld rfl ?_ | refine xsto rfl ?_ | refine xno ?_ | refine xt ?_ | refine xf ?_)
    refine xd (fun h2 => ?_) (fun h2 => ?_)
    · have e1 : progF m bs = newF 2 bs.length := by unfold progF; rw [if_neg (by rw [h1]; simp), if_pos h2]; rfl
      have e2 : progL m bs = [] := by unfold progL; rw [e1]; rfl
      repeat (first | refine xst ?_ | refine xar ?_ | refine xop ?_ | refine xlen ?_ | refine xld rfl ?_ | refine xsto rfl ?_ | refine xno ?_ | refine xt ?_ | refine xf ?_)
      refine xcall (new_spec 2 bs.length) ?_
      rintro v H rfl
      refine G.app ?_
      refine G.fact (chain (newF 2 bs.length) v) (P := oneC v = true) (fun w F h => chain_one h) fun ho => ?_
      repeat (first | refine xst ?_ | refine xar ?_ | refine xop ?_ | refine xlen ?_ | refine xld rfl ?_ | refine xsto rfl ?_ | refine xno ?_ | refine xt ?_ | refine xf ?_)
      refine G.sln 4 ?_
      refine xretp [0, 0] ?_
      rw [e1, e2]
      exact ⟨none, 0, v, rfl, ho, rfl⟩
    · repeat (first | refine xst ?_ | refine xar ?_ | refine xop ?_ | refine xlen ?_ | refine xld rfl ?_ | refine xsto rfl ?_ | refine xno ?_ | refine xt ?_ | refine xf ?_)
      refine xd (fun h3 => ?_) (fun h3 => ?_)
      · have e1 : progF m bs = newF 7 m.size := by unfold progF; rw [if_neg (by rw [h1]; simp), if_neg h2, if_pos h3]; rfl
        have e2 : progL m bs = [] := by unfold progL; rw [e1]; rfl
        repeat (first | refine xst ?_ | refine xar ?_ | refine xop ?_ | refine xlen ?_ | refine xld rfl ?_ | refine xsto rfl ?_ | refine xno ?_ | refine xt ?_ | refine xf ?_)
        refine xcall (new_spec 7 m.size) ?_
        rintro v H rfl
        refine G.app ?_
        refine G.fact (chain (newF 7 m.size) v) (P := oneC v = true) (fun w F h => chain_one h) fun ho => ?_
        repeat (first | refine xst ?_ | refine xar ?_ | refine xop ?_ | refine xlen ?_ | refine xld rfl ?_ | refine xsto rfl ?_ | refine xno ?_ | refine xt ?_ | refine xf ?_)
        refine G.sln 4 ?_
        refine xretp [0, 0] ?_
        rw [e1, e2]
        exact ⟨none, 0, v, rfl, ho, rfl⟩
      · repeat (first | refine xst ?_ | refine xar ?_ | refine xop ?_ | refine xlen ?_ | refine xld rfl ?_ | refine xsto rfl ?_ | refine xno ?_ | refine xt ?_ | refine xf ?_)
        have hp3 : (i : TI) → i.agg = true → i.size = 32 → partF i m.v (0 + 3) = some (.agg (bsV m.sum).toArray) := by
          intro i ha hs'
          rw [partF_agg ha (by rw [hml, hs']; exact Nat.le_of_ble_eq_true rfl), hs']
          show some (Value.agg ((bsV m.sum).take 32).toArray) = _
          rw [List.take_of_length_le (by rw [bsV_length, hs]; exact Nat.le_refl _)]
        refine xdraw ?_
        refine xdop 0 ?_
        refine xdop 2 ?_
        refine xdld 3 rfl rfl ?_ (hv := hp3 _ rfl rfl)
        refine xdact 1 ?_
        refine xcall (sum_spec a bs.length cap bs rfl (by omega)) ?_
        rintro v H ⟨rfl, rfl⟩
        refine G.app ?_
        have hsl := shaF_len bs
        refine xst ?_
        refine xdeq 4 rfl rfl eq_sum (by rw [bsV_length, hsl]; rfl) (by rw [bsV_length, hs]; rfl) (SameK.bsV (by rw [hsl, hs])) ?_
        refine xdop 5 ?_
        refine xdend ?_
        have hne : (true ^^ eqIV (bsV (shaF bs)) (bsV m.sum)) = decide (shaF bs ≠ m.sum) := by
          rw [eqIV_bsV (by rw [hsl, hs])]; simp
        refine xE 31 (.bool (decide (shaF bs ≠ m.sum))) rfl (congrArg Value.bool hne) ?_
        refine xd (fun h4 => ?_) (fun h4 => ?_)
        · have e1 : progF m bs = newF 8 0 := by unfold progF; rw [if_neg (by rw [h1]; simp), if_neg h2, if_neg h3, if_pos h4]; rfl
          have e2 : progL m bs = [] := by unfold progL; rw [e1]; rfl
          repeat (first | refine xst ?_ | refine xar ?_ | refine xop ?_ | refine xlen ?_ | refine xld rfl ?_ | refine xsto rfl ?_ | refine xno ?_ | refine xt ?_ | refine xf ?_)
          refine xcall (new_spec 8 0) ?_
          rintro v H rfl
          refine G.app ?_
          refine G.fact (chain (newF 8 0) v) (P := oneC v = true) (fun w F h => chain_one h) fun ho => ?_
          repeat (first | refine xst ?_ | refine xar ?_ | refine xop ?_ | refine xlen ?_ | refine xld rfl ?_ | refine xsto rfl ?_ | refine xno ?_ | refine xt ?_ | refine xf ?_)
          refine G.sln 4 ?_
          refine xretp [0, 0] ?_
          rw [e1, e2]
          exact ⟨none, 0, v, rfl, ho, rfl⟩
        · have e1 : progF m bs = inF (decF bs) m.ver.toNat := by unfold progF; rw [if_neg (by rw [h1]; simp), if_neg h2, if_neg h3, if_neg h4]
          have hin : inF (decF bs) m.ver.toNat = [] ↔ decF bs = [] := by unfold inF; split <;> simp_all
          have e2 : progL m bs = decL bs := by unfold progL decL; rw [e1]; simp only [hin]
          repeat (first | refine xst ?_ | refine xar ?_ | refine xop ?_ | refine xlen ?_ | refine xld rfl ?_ | refine xsto rfl ?_ | refine xno ?_ | refine xt ?_ | refine xf ?_)
          refine xcall (decode_spec a bs.length cap bs rfl hl) ?_
          rintro v H ⟨a', cap', e, rfl, he, rfl⟩
          refine G.app ?_
          cases hd : decF bs with
          | nil =>
            refine G.fact (chain [] e) (P := e = .nilIface) (fun w F h => h) fun h => ?_
            subst h
            repeat (first | refine xst ?_ | refine xar ?_ | refine xop ?_ | refine xlen ?_ | refine xld rfl ?_ | refine xsto rfl ?_ | refine xno ?_ | refine xt ?_ | refine xf ?_)
            refine xretp [0, 0] ?_
            rw [e1, e2, hd]
            exact ⟨a', cap', _, rfl, rfl, rfl⟩
          | cons q r =>
            obtain ⟨c, x⟩ := q
            refine G.fact (chain ((c, x) :: r) e) (P := ∃ b : Nat, e = .iface 128 (.pointer (some ⟨b, 0, none⟩))) (fun w F h => by obtain ⟨b, u, F1, F2, ⟨h1, h2⟩, _⟩ := h; exact ⟨b, h1⟩) fun h => ?_
            obtain ⟨b2, rfl⟩ := h
            have hver := m.ver.toNat_lt
            repeat (first | refine xst ?_ | refine xar ?_ | refine xop ?_ | refine xlen ?_ | refine xld rfl ?_ | refine xsto rfl ?_ | refine xno ?_ | refine xt ?_ | refine xf ?_)
            refine xE 48 (.int .i64 (m.ver.toNat : Int)) rfl (by first | rfl | exact congrArg (Value.int .i64) (wrap_nat (by omega))) ?_
            refine xcall (in_spec ((c, x) :: r) (.iface 128 (.pointer (some ⟨b2, 0, none⟩))) (m.ver.toNat : Int) rfl) ?_
            rintro v H rfl
            refine G.app ?_
            refine G.fact (chain (inF ((c, x) :: r) m.ver.toNat) v) (P := oneC v = true) (fun w F h => chain_one h) fun ho => ?_
            repeat (first | refine xst ?_ | refine xar ?_ | refine xop ?_ | refine xlen ?_ | refine xld rfl ?_ | refine xsto rfl ?_ | refine xno ?_ | refine xt ?_ | refine xf ?_)
            refine G.sln 4 ?_
            refine xretp [0, 0] ?_
            have e3 : decL bs = [] := by unfold decL; rw [hd]; rfl
            rw [e1, e2, e3, hd]
            exact ⟨none, 0, v, rfl, ho, rfl⟩
end Go.Proofs.YthlaacnjgdmakaaDoor

/- image: Finish, Check, Begin. -/
namespace Go.Proofs.YthlaacnjgdmakaaDoor
open Go.W

def stgV (m : Man) (s : Value) : List Value := m.v ++ [s]
theorem stgV_len {m : Man} (h : m.sum.length = 32) (s : Value) : (stgV m s).length = 36 := by unfold stgV; rw [List.length_append, Man.v_len h]; rfl
theorem stgV_man {m : Man} (h : m.sum.length = 32) (s : Value) {i : TI} (ha : i.agg = true) (hs : i.size = 35) : partF i (stgV m s) (0 + 0) = some (.agg m.v.toArray) := by
  rw [partF_agg ha (by rw [stgV_len h, hs]; exact Nat.le_of_ble_eq_true rfl), hs]
  show some (Value.agg ((m.v ++ [s]).take 35).toArray) = _
  rw [List.take_append_of_le_length (by rw [Man.v_len h]; exact Nat.le_refl _), List.take_of_length_le (by rw [Man.v_len h]; exact Nat.le_refl _)]
theorem stgV_got {m : Man} (h : m.sum.length = 32) (s : Value) {i : TI} (ha : i.agg = false) : partF i (stgV m s) (0 + 35) = some s := by
  refine partF_one ha ?_
  unfold stgV
  rw [List.getElem?_append_right (by rw [Man.v_len h]; exact Nat.le_of_ble_eq_true rfl), Man.v_len h]; rfl
theorem stgV_one (m : Man) {s : Value} (hs : s.oneCell' = true) : ∀ v ∈ stgV m s, v.oneCell' = true := by
  intro v hv
  rcases List.mem_append.1 hv with hv | hv
  · exact m.v_one v hv
  · obtain rfl := List.mem_singleton.1 hv; exact hs
def man0 : Man := ⟨0, 0, 0, List.replicate 32 0⟩
def stg0 : List Value := stgV man0 (.slice none 0 0)

theorem finish_spec (m : Man) (hs : m.sum.length = 32) (a : Option Addr) (n cap : Nat) (bs : List UInt8) (hn : n = bs.length) (hl : n ≤ 1000000) : Fun Tryd.prog 21 [.agg (stgV m (.slice a n cap)).toArray] [gErr, kV, iniV, slR 1 a n cap (bsV bs)] []
    fun v H => ∃ a' cap' e, v = .tuple #[.slice a' (progL m bs).length cap', e] ∧ oneC e = true ∧ H = [sl 4 a' (progL m bs).length cap' (inssV (progL m bs)), chain (progF m bs) e] := by
  subst hn
  refine xenter (p := pg) Tryd.call21 Tryd.func21 fun C => ?_
  haveI : RP C gErr := RP.of C (by simp)
  haveI : RP C kV := RP.of C (by simp)
  haveI : RP C iniV := RP.of C (by simp)
  haveI hr := RP.slR (RP.of C (X := slR 1 a bs.length cap (bsV bs)) (by simp))
  repeat (first | refine xst ?_ | refine xar ?_ | refine xop ?_ | refine xlen ?_ | refine xld rfl ?_ | refine xsto rfl ?_ | refine xno ?_ | refine xt ?_ | refine xf ?_)
  refine xnew fun b => ?_
  refine xrep 0 (stgV m (.slice a bs.length cap)) rfl rfl ?_
  repeat (first | refine xst ?_ | refine xar ?_ | refine xop ?_ | refine xlen ?_ | refine xld rfl ?_ | refine xsto rfl ?_ | refine xno ?_ | refine xt ?_ | refine xf ?_)
  refine xld rfl ?_ (hv := stgV_man hs _ rfl rfl)
  repeat (first | refine xst ?_ | refine xar ?_ | refine xop ?_ | refine xlen ?_ | refine xld rfl ?_ | refine xsto rfl ?_ | refine xno ?_ | refine xt ?_ | refine xf ?_)
  refine xld rfl ?_ (hv := stgV_got hs _ rfl)
  refine xcall (program_spec m hs a bs.length cap bs rfl hl) ?_
  rintro v H ⟨a', cap', e, rfl, he, rfl⟩
  refine G.app ?_
  repeat (first | refine xst ?_ | refine xar ?_ | refine xop ?_ | refine xlen ?_ | refine xld rfl ?_ | refine xsto rfl ?_ | refine xno ?_ | refine xt ?_ | refine xf ?_)
  refine xretp [0, 0] ?_
  exact ⟨a', cap', e, rfl, he, rfl⟩

theorem icheck_spec (m : Man) (hs : m.sum.length = 32) (a : Option Addr) (n cap : Nat) (bs : List UInt8) (hn : n = bs.length) (hl : n ≤ 1000000) : Fun Tryd.prog 26 [.agg m.v.toArray, .slice a n cap] [gErr, kV, iniV, slR 1 a n cap (bsV bs)] []
    fun v H => oneC v = true ∧ H = [chain (progF m bs) v] := by
  subst hn
  refine xenter (p := pg) Tryd.call26 Tryd.func26 fun C => ?_
  haveI : RP C gErr := RP.of C (by simp)
  haveI : RP C kV := RP.of C (by simp)
  haveI : RP C iniV := RP.of C (by simp)
  haveI hr := RP.slR (RP.of C (X := slR 1 a bs.length cap (bsV bs)) (by simp))
  have hml := Man.v_len hs
  repeat (first | refine xst ?_ | refine xar ?_ | refine xop ?_ | refine xlen ?_ | refine xld rfl ?_ | refine xsto rfl ?_ | refine xno ?_ | refine xt ?_ | refine xf ?_)
  refine xnew fun b => ?_
  refine xrep 0 m.v rfl rfl ?_
  repeat (first | refine xst ?_ | refine xar ?_ | refine xop ?_ | refine xlen ?_ | refine xld rfl ?_ | refine xsto rfl ?_ | refine xno ?_ | refine xt ?_ | refine xf ?_)
  refine xld rfl ?_ (hv := partF_all rfl hml)
  repeat (first | refine xst ?_ | refine xar ?_ | refine xop ?_ | refine xlen ?_ | refine xld rfl ?_ | refine xsto rfl ?_ | refine xno ?_ | refine xt ?_ | refine xf ?_)
  refine xcall (program_spec m hs a bs.length cap bs rfl hl) ?_
  rintro v H ⟨a', cap', e, rfl, he, rfl⟩
  refine G.app ?_
  repeat (first | refine xst ?_ | refine xar ?_ | refine xop ?_ | refine xlen ?_ | refine xld rfl ?_ | refine xsto rfl ?_ | refine xno ?_ | refine xt ?_ | refine xf ?_)
  refine xretp [1] ?_
  exact ⟨he, rfl⟩

theorem begin_spec (m : Man) (hs : m.sum.length = 32) : Fun Tryd.prog 16 [.agg m.v.toArray] [] []
    fun v H => v = .tuple #[.agg (if m.ok = true then stgV m (.slice none 0 0) else stg0).toArray, .int .i64 (if m.ok = true then 0 else 1)] ∧ H = [] := by
  refine xenter (p := pg) Tryd.call16 Tryd.func16 fun C => ?_
  have hml := Man.v_len hs
  have hsl := stgV_len hs (.slice none 0 0)
  repeat (first | refine xst ?_ | refine xar ?_ | refine xop ?_ | refine xlen ?_ | refine xld rfl ?_ | refine xsto rfl ?_ | refine xno ?_ | refine xt ?_ | refine xf ?_)
  refine xnew fun b => ?_
  refine xnew fun b2 => ?_
  refine xrep 1 m.v rfl rfl ?_
  refine xrep 1 stg0 rfl rfl ?_
  repeat (first | refine xst ?_ | refine xar ?_ | refine xop ?_ | refine xlen ?_ | refine xld rfl ?_ | refine xsto rfl ?_ | refine xno ?_ | refine xt ?_ | refine xf ?_)
  refine xld rfl ?_ (hv := partF_all rfl hml)
  refine xcall (valid_spec m hs) ?_
  rintro v H ⟨rfl, rfl⟩
  refine G.app ?_
  repeat (first | refine xst ?_ | refine xar ?_ | refine xop ?_ | refine xlen ?_ | refine xld rfl ?_ | refine xsto rfl ?_ | refine xno ?_ | refine xt ?_ | refine xf ?_)
  refine xb (fun h1 => ?_) (fun h1 => ?_)
  · have h1 : m.ok = false := by simpa using h1
    repeat (first | refine xst ?_ | refine xar ?_ | refine xop ?_ | refine xlen ?_ | refine xld rfl ?_ | refine xsto rfl ?_ | refine xno ?_ | refine xt ?_ | refine xf ?_)
    refine xrep 0 stg0 rfl rfl ?_
    refine xretm [] rfl (.c (.t .nil) rfl rfl (partF_all rfl rfl)) ?_
    rw [if_neg (by rw [h1]; simp), if_neg (by rw [h1]; simp)]
    exact ⟨rfl, rfl⟩
  · have h1 : m.ok = true := by simpa using h1
    repeat (first | refine xst ?_ | refine xar ?_ | refine xop ?_ | refine xlen ?_ | refine xld rfl ?_ | refine xsto rfl ?_ | refine xno ?_ | refine xt ?_ | refine xf ?_)
    refine xld rfl ?_ (hv := partF_all rfl hml)
    refine xbuild (stgV m (.slice none 0 0)) rfl (fillF_cons rfl hml (by exact Nat.le_of_ble_eq_true rfl) (congrArg some rfl)) ?_
    refine xsta (cs := stgV m (.slice none 0 0)) rfl hsl (stgV_one m rfl) (stgV m (.slice none 0 0)) (put_all (by rw [hsl]; rfl)) (by rw [hsl]; exact Nat.le_of_ble_eq_true rfl) ?_
    repeat (first | refine xst ?_ | refine xar ?_ | refine xop ?_ | refine xlen ?_ | refine xld rfl ?_ | refine xsto rfl ?_ | refine xno ?_ | refine xt ?_ | refine xf ?_)
    refine xretm [] rfl (.c (.t .nil) rfl rfl (partF_all rfl hsl)) ?_
    rw [if_pos h1, if_pos h1]
    exact ⟨rfl, rfl⟩

theorem putk_spec (n k : Nat) (h1 : 1 ≤ k) (h8 : k ≤ 8) (hn : n < 18446744073709551616) : Fun Tryd.prog 52 [.int .u64 (n : Int), .int .i64 (k : Int)] [] []
    fun v H => ∃ a cap, v = .slice a k cap ∧ H = [sl 1 a k cap (bsV (putB n k))] := by
  refine (put_spec n k hn).mono ?_
  rintro v H ⟨a, cap, rfl, rfl⟩
  have e : putO n (k : Int) = putB n k := by unfold putO; rw [if_pos (by omega)]; rfl
  rw [e, putB_length]
  exact ⟨a, cap, rfl, rfl⟩
def encM (m : Man) : List UInt8 := if m.ok = true then [77] ++ putB m.part.toNat 1 ++ putB m.ver.toNat 4 ++ putB m.size.toNat 2 ++ m.sum else []
theorem iencode_spec (m : Man) (hs : m.sum.length = 32) : Fun Tryd.prog 30 [.agg m.v.toArray] [] []
    fun v H => ∃ a cap, v = .slice a (encM m).length cap ∧ H = [sl 1 a (encM m).length cap (bsV (encM m))] := by
  refine xenter (p := pg) Tryd.call30 Tryd.func30 fun C => ?_
  have hml := Man.v_len hs
  repeat (first | refine xst ?_ | refine xar ?_ | refine xop ?_ | refine xlen ?_ | refine xld rfl ?_ | refine xsto rfl ?_ | refine xno ?_ | refine xt ?_ | refine xf ?_)
  refine xnew fun b => ?_
  refine xrep 0 m.v rfl rfl ?_
  repeat (first | refine xst ?_ | refine xar ?_ | refine xop ?_ | refine xlen ?_ | refine xld rfl ?_ | refine xsto rfl ?_ | refine xno ?_ | refine xt ?_ | refine xf ?_)
  refine xld rfl ?_ (hv := partF_all rfl hml)
  refine xcall (valid_spec m hs) ?_
  rintro v H ⟨rfl, rfl⟩
  refine G.app ?_
  repeat (first | refine xst ?_ | refine xar ?_ | refine xop ?_ | refine xlen ?_ | refine xld rfl ?_ | refine xsto rfl ?_ | refine xno ?_ | refine xt ?_ | refine xf ?_)
  refine xb (fun h1 => ?_) (fun h1 => ?_)
  · have h1 : m.ok = false := by simpa using h1
    repeat (first | refine xst ?_ | refine xar ?_ | refine xop ?_ | refine xlen ?_ | refine xld rfl ?_ | refine xsto rfl ?_ | refine xno ?_ | refine xt ?_ | refine xf ?_)
    refine G.sln 1 ?_
    refine xretp [0] ?_
    have e : encM m = [] := by unfold encM; rw [if_neg (by rw [h1]; simp)]
    rw [e]
    exact ⟨none, 0, rfl, rfl⟩
  · have h1 : m.ok = true := by simpa using h1
    have hok : 0 ≤ m.part ∧ m.part < 8 ∧ 4 ≤ m.size ∧ m.size ≤ 512 := by
      unfold Man.ok at h1; rw [decide_eq_true_eq] at h1; omega
    repeat (first | refine xst ?_ | refine xar ?_ | refine xop ?_ | refine xlen ?_ | refine xld rfl ?_ | refine xsto rfl ?_ | refine xno ?_ | refine xt ?_ | refine xf ?_)
    refine xmake 0 40 rfl rfl rfl (by omega) (by omega) (by omega) fun b2 => ?_
    repeat (first | refine xst ?_ | refine xar ?_ | refine xop ?_ | refine xlen ?_ | refine xld rfl ?_ | refine xsto rfl ?_ | refine xno ?_ | refine xt ?_ | refine xf ?_)
    refine xbsl fun b3 => ?_
    refine xapp (zeros 0 [.int .u8 0]) rfl (SrcOk.blk (ys := bsV [77]) rfl (by simp) (bsV_one _)) (by omega) fun a1 c1 => ?_
    repeat (refine xnot 14 ?_; first | refine xst ?_ | refine xar ?_ | refine xop ?_ | refine xlen ?_ | refine xld rfl ?_ | refine xsto rfl ?_ | refine xno ?_ | refine xt ?_ | refine xf ?_)
    refine xE 14 (.int .u64 (m.part.toNat : Int)) rfl (congrArg (Value.int .u64) (by rw [show m.part = (m.part.toNat : Int) by omega, u64_wrap (by omega)]; simp)) ?_
    refine xcall (putk_spec m.part.toNat 1 (by omega) (by omega) (by omega)) ?_
    rintro v H ⟨p1, pc1, rfl, rfl⟩
    refine G.app ?_
    refine xapp (zeros 0 [.int .u8 0] ++ bsV [77]) rfl (SrcOk.sl (ys := bsV (putB m.part.toNat 1)) (by rw [bsV_length, putB_length]) (bsV_one _)) (by omega) fun a2 c2 => ?_
    repeat (refine xnot 20 ?_; first | refine xst ?_ | refine xar ?_ | refine xop ?_ | refine xlen ?_ | refine xld rfl ?_ | refine xsto rfl ?_ | refine xno ?_ | refine xt ?_ | refine xf ?_)
    have hv := m.ver.toNat_lt
    refine xE 20 (.int .u64 (m.ver.toNat : Int)) rfl (congrArg (Value.int .u64) (u64_wrap (by omega))) ?_
    refine xcall (putk_spec m.ver.toNat 4 (by omega) (by omega) (by omega)) ?_
    rintro v H ⟨p2, pc2, rfl, rfl⟩
    refine G.app ?_
    refine xapp (zeros 0 [.int .u8 0] ++ bsV [77] ++ bsV (putB m.part.toNat 1)) rfl (SrcOk.sl (ys := bsV (putB m.ver.toNat 4)) (by rw [bsV_length, putB_length]) (bsV_one _)) (by omega) fun a3 c3 => ?_
    repeat (refine xnot 26 ?_; first | refine xst ?_ | refine xar ?_ | refine xop ?_ | refine xlen ?_ | refine xld rfl ?_ | refine xsto rfl ?_ | refine xno ?_ | refine xt ?_ | refine xf ?_)
    refine xE 26 (.int .u64 (m.size.toNat : Int)) rfl (congrArg (Value.int .u64) (by rw [show m.size = (m.size.toNat : Int) by omega, u64_wrap (by omega)]; simp)) ?_
    refine xcall (putk_spec m.size.toNat 2 (by omega) (by omega) (by omega)) ?_
    rintro v H ⟨p3, pc3, rfl, rfl⟩
    refine G.app ?_
    refine xapp (zeros 0 [.int .u8 0] ++ bsV [77] ++ bsV (putB m.part.toNat 1) ++ bsV (putB m.ver.toNat 4)) rfl (SrcOk.sl (ys := bsV (putB m.size.toNat 2)) (by rw [bsV_length, putB_length]) (bsV_one _)) (by omega) fun a4 c4 => ?_
    repeat (first | refine xst ?_ | refine xar ?_ | refine xop ?_ | refine xlen ?_ | refine xld rfl ?_ | refine xsto rfl ?_ | refine xno ?_ | refine xt ?_ | refine xf ?_)
    refine xslice 0 32 rfl rfl rfl (by omega) (by omega) ?_
    refine xE 31 (.slice (some ⟨b, 3, none⟩) 32 32) rfl (congrArg (fun z => Value.slice z 32 32) ((subA_lt (by omega)).trans rfl)) ?_
    refine xapp (zeros 0 [.int .u8 0] ++ bsV [77] ++ bsV (putB m.part.toNat 1) ++ bsV (putB m.ver.toNat 4) ++ bsV (putB m.size.toNat 2)) rfl (SrcOk.blk (ys := bsV m.sum) (by show (bsV m.sum).take 32 = _; rw [List.take_of_length_le (by rw [bsV_length, hs]; exact Nat.le_refl _)]) (by rw [hml]; exact Nat.le_of_ble_eq_true rfl) (bsV_one _)) (by omega) fun a5 c5 => ?_
    repeat (first | refine xst ?_ | refine xar ?_ | refine xop ?_ | refine xlen ?_ | refine xld rfl ?_ | refine xsto rfl ?_ | refine xno ?_ | refine xt ?_ | refine xf ?_)
    refine xretp [0] ?_
    have e : encM m = [77] ++ putB m.part.toNat 1 ++ putB m.ver.toNat 4 ++ putB m.size.toNat 2 ++ m.sum := by unfold encM; rw [if_pos h1]
    have el : (encM m).length = 40 := by rw [e]; simp [putB_length, hs]
    rw [el, e]
    simp only [bsV_append]
    exact ⟨a5, c5, rfl, rfl⟩
end Go.Proofs.YthlaacnjgdmakaaDoor

/- bytes.Join of two pieces. -/
namespace Go.Proofs.YthlaacnjgdmakaaDoor
open Go.W

theorem noz_ext (n : Nat) (hn : n ≤ 281474976710656) : Ext Tryd.prog 71 [.int .i64 n] fun v H => ∃ (b : Nat) (cs : List Value), n ≤ cs.length ∧ v = .slice (some ⟨b, 0, none⟩) n cs.length ∧ H = [pts b cs] :=
  noZero_ext #[3] (t := 25) (e := 5) Tryd.underlying25 hn (fun w => callFunc_ext Tryd.func71 (by kernel_rfl) rfl (by kernel_rfl) (by kernel_rfl))
def totF (n1 n2 : Nat) : Nat → Nat
  | 0 => 0
  | 1 => n1
  | _ => n1 + n2
theorem join_spec (pb : Nat) (a1 a2 : Option Addr) (n1 c1 n2 c2 : Nat) (xs ys : List UInt8) (h1 : n1 = xs.length) (h2 : n2 = ys.length) (hl : n1 + n2 ≤ 100000000) :
    Fun Tryd.prog 41 [.slice (some ⟨pb, 0, none⟩) 2 2, .slice none 0 0] [rdb pb [.slice a1 n1 c1, .slice a2 n2 c2], slR 1 a1 n1 c1 (bsV xs), slR 1 a2 n2 c2 (bsV ys)] []
    fun v H => ∃ b, v = .slice (some ⟨b, 0, none⟩) (n1 + n2) (n1 + n2) ∧ H = [sl 1 (some ⟨b, 0, none⟩) (n1 + n2) (n1 + n2) (bsV (xs ++ ys))] := by
  refine xenter (p := pg) Tryd.call41 Tryd.func41 fun C => ?_
  haveI := RB.of C (b := pb) (l := [.slice a1 n1 c1, .slice a2 n2 c2]) (by simp)
  have hr1 := RP.slR (RP.of C (X := slR 1 a1 n1 c1 (bsV xs)) (by simp))
  have hr2 := RP.slR (RP.of C (X := slR 1 a2 n2 c2 (bsV ys)) (by simp))
  repeat (first | refine xst ?_ | refine xar ?_ | refine xop ?_ | refine xlen ?_ | refine xld rfl ?_ | refine xsto rfl ?_ | refine xno ?_ | refine xt ?_ | refine xf ?_)
  refine G.loop (σ := Nat) (fun k => [(0, .slice (some ⟨pb, 0, none⟩) 2 2), (1, .slice none 0 0), (5, .int .i64 (totF n1 n2 k : Int)), (42, .slice (some ⟨pb, 0, none⟩) 2 2), (43, .int .i64 2), (44, .int .i64 (k : Int))])
    (fun _ => []) (fun k => k ≤ 2) (fun k => 2 - k) 0 (Nat.zero_le _) ⟨rfl, rfl, rfl, rfl, rfl, rfl, trivial⟩ (Ent.refl _) ?_
  intro k hk
  repeat (first | refine xst ?_ | refine xar ?_ | refine xop ?_ | refine xlen ?_ | refine xld rfl ?_ | refine xsto rfl ?_ | refine xno ?_ | refine xt ?_ | refine xf ?_)
  refine xd (fun h3 => ?_) (fun h3 => ?_)
  · obtain rfl | rfl : k = 0 ∨ k = 1 := by omega
    · refine xE 5 (.int .i64 0) rfl rfl ?_
      repeat (first | refine xst ?_ | refine xar ?_ | refine xop ?_ | refine xlen ?_ | refine xld rfl ?_ | refine xsto rfl ?_ | refine xno ?_ | refine xt ?_ | refine xf ?_)
      refine xix ?_ (hk := Nat.le_of_ble_eq_true rfl)
      repeat (first | refine xst ?_ | refine xar ?_ | refine xop ?_ | refine xlen ?_ | refine xld rfl ?_ | refine xsto rfl ?_ | refine xno ?_ | refine xt ?_ | refine xf ?_)
      refine xd (fun h4 => ?_) (fun h4 => ?_)
      · omega
      repeat (first | refine xst ?_ | refine xar ?_ | refine xop ?_ | refine xlen ?_ | refine xld rfl ?_ | refine xsto rfl ?_ | refine xno ?_ | refine xt ?_ | refine xf ?_)
      refine xE 5 (.int .i64 (n1 : Int)) rfl (by rw [Int.zero_add]) ?_
      exact G.fin 1 ⟨by omega, by omega⟩ ⟨rfl, rfl, rfl, rfl, rfl, rfl, trivial⟩ ent_pick
    · refine xE 5 (.int .i64 (n1 : Int)) rfl rfl ?_
      repeat (first | refine xst ?_ | refine xar ?_ | refine xop ?_ | refine xlen ?_ | refine xld rfl ?_ | refine xsto rfl ?_ | refine xno ?_ | refine xt ?_ | refine xf ?_)
      refine xix ?_ (hk := Nat.le_of_ble_eq_true rfl)
      repeat (first | refine xst ?_ | refine xar ?_ | refine xop ?_ | refine xlen ?_ | refine xld rfl ?_ | refine xsto rfl ?_ | refine xno ?_ | refine xt ?_ | refine xf ?_)
      refine xd (fun h4 => ?_) (fun h4 => ?_)
      · omega
      repeat (first | refine xst ?_ | refine xar ?_ | refine xop ?_ | refine xlen ?_ | refine xld rfl ?_ | refine xsto rfl ?_ | refine xno ?_ | refine xt ?_ | refine xf ?_)
      refine xE 5 (.int .i64 ((n1 + n2 : Nat) : Int)) rfl (by rw [Int.natCast_add]) ?_
      exact G.fin 2 ⟨by omega, by omega⟩ ⟨rfl, rfl, rfl, rfl, rfl, rfl, trivial⟩ ent_pick
  · obtain rfl : k = 2 := by omega
    refine xE 5 (.int .i64 ((n1 + n2 : Nat) : Int)) rfl rfl ?_
    repeat (first | refine xst ?_ | refine xar ?_ | refine xop ?_ | refine xlen ?_ | refine xld rfl ?_ | refine xsto rfl ?_ | refine xno ?_ | refine xt ?_ | refine xf ?_)
    refine xext (noz_ext (n1 + n2) (by omega)) ?_
    rintro v H ⟨b, cs, hcs, rfl, rfl⟩
    refine G.app ?_
    repeat (first | refine xst ?_ | refine xar ?_ | refine xop ?_ | refine xlen ?_ | refine xld rfl ?_ | refine xsto rfl ?_ | refine xno ?_ | refine xt ?_ | refine xf ?_)
    refine xslice3 (n1 + n2) (n1 + n2) rfl rfl rfl (Nat.le_refl _) hcs ?_
    repeat (first | refine xst ?_ | refine xar ?_ | refine xop ?_ | refine xlen ?_ | refine xld rfl ?_ | refine xsto rfl ?_ | refine xno ?_ | refine xt ?_ | refine xf ?_)
    refine xix ?_ (hk := Nat.le_of_ble_eq_true rfl)
    repeat (first | refine xst ?_ | refine xar ?_ | refine xop ?_ | refine xlen ?_ | refine xld rfl ?_ | refine xsto rfl ?_ | refine xno ?_ | refine xt ?_ | refine xf ?_)
    have hxl : (bsV xs).length = n1 := by rw [bsV_length, h1]
    have hyl : (bsV ys).length = n2 := by rw [bsV_length, h2]
    refine xcopy rfl (SrcOk.rs hr1 (bsV_one _)) n1 (Nat.min_eq_left (by omega)) (bsV xs ++ cs.drop n1) (by rw [Nat.mul_one, List.take_zero, List.nil_append, List.take_of_length_le (by omega), Nat.zero_add]) (by omega) ?_
    repeat (first | refine xst ?_ | refine xar ?_ | refine xop ?_ | refine xlen ?_ | refine xld rfl ?_ | refine xsto rfl ?_ | refine xno ?_ | refine xt ?_ | refine xf ?_)
    refine xslice 1 2 rfl rfl rfl (by omega) (by omega) ?_
    refine xE 70 (.slice (some ⟨pb, 1, none⟩) 1 1) rfl (congrArg (fun z => Value.slice z 1 1) (subA_lt (by omega))) ?_
    repeat (first | refine xst ?_ | refine xar ?_ | refine xop ?_ | refine xlen ?_ | refine xld rfl ?_ | refine xsto rfl ?_ | refine xno ?_ | refine xt ?_ | refine xf ?_)
    refine G.loop (σ := Nat) (fun k => [(1, .slice none 0 0), (8, .slice (some ⟨b, 0, none⟩) (n1 + n2) (n1 + n2)), (9, .int .i64 ((if k = 0 then n1 else n1 + n2 : Nat) : Int)), (70, .slice (some ⟨pb, 1, none⟩) 1 1), (71, .int .i64 1), (72, .int .i64 (k : Int))])
      (fun k => [pts b (if k = 0 then bsV xs ++ cs.drop n1 else bsV xs ++ bsV ys ++ cs.drop (n1 + n2))]) (fun k => k ≤ 1) (fun k => 1 - k) 0 (Nat.zero_le _) ⟨rfl, rfl, rfl, rfl, rfl, rfl, trivial⟩ (Ent.refl _) ?_
    intro k hk2
    obtain rfl | rfl : k = 0 ∨ k = 1 := by omega
    · refine xrep 0 (bsV xs ++ cs.drop n1) rfl rfl ?_
      refine xE 9 (.int .i64 (n1 : Int)) rfl rfl ?_
      repeat (first | refine xst ?_ | refine xar ?_ | refine xop ?_ | refine xlen ?_ | refine xld rfl ?_ | refine xsto rfl ?_ | refine xno ?_ | refine xt ?_ | refine xf ?_)
      refine xix ?_ (hk := Nat.le_of_ble_eq_true rfl)
      repeat (first | refine xst ?_ | refine xar ?_ | refine xop ?_ | refine xlen ?_ | refine xld rfl ?_ | refine xsto rfl ?_ | refine xno ?_ | refine xt ?_ | refine xf ?_)
      refine xslice n1 (n1 + n2) rfl rfl rfl (by omega) (by omega) ?_
      obtain ⟨off, ho, hoff⟩ : ∃ off, subA (some ⟨b, 0, none⟩) n1 1 (n1 + n2) = some ⟨b, off, none⟩ ∧ (off = n1 ∨ (n2 = 0 ∧ off = 0)) := by
        by_cases h0 : n2 = 0
        · exact ⟨0, by unfold subA; rw [if_pos (by omega)], .inr ⟨h0, rfl⟩⟩
        · exact ⟨n1, by rw [subA_lt (by omega)]; simp, .inl rfl⟩
      have hdst : Value.slice (subA (some ⟨b, 0, none⟩) n1 1 (n1 + n2)) (n1 + n2 - n1) (n1 + n2 - n1) = .slice (some ⟨b, off, none⟩) n2 n2 := by
        rw [ho, Nat.add_sub_cancel_left]
      have hrow : (bsV xs ++ cs.drop n1).length = cs.length := by rw [List.length_append, hxl, List.length_drop]; omega
      refine xE 79 (.slice (some ⟨b, off, none⟩) n2 n2) rfl hdst ?_
      repeat (first | refine xst ?_ | refine xar ?_ | refine xop ?_ | refine xlen ?_ | refine xld rfl ?_ | refine xsto rfl ?_ | refine xno ?_ | refine xt ?_ | refine xf ?_)
      refine xcopy rfl (SrcOk.nil) 0 (Nat.zero_min _) (bsV xs ++ cs.drop n1) (by simp) (by rw [hrow]; omega) ?_
      repeat (refine xnot 82 ?_; first | refine xst ?_ | refine xar ?_ | refine xop ?_ | refine xlen ?_ | refine xld rfl ?_ | refine xsto rfl ?_ | refine xno ?_ | refine xt ?_ | refine xf ?_)
      refine xE 82 (.int .i64 (n1 : Int)) rfl (by simp) ?_
      repeat (first | refine xst ?_ | refine xar ?_ | refine xop ?_ | refine xlen ?_ | refine xld rfl ?_ | refine xsto rfl ?_ | refine xno ?_ | refine xt ?_ | refine xf ?_)
      refine xslice n1 (n1 + n2) rfl rfl rfl (by omega) (by omega) ?_
      refine xE 86 (.slice (some ⟨b, off, none⟩) n2 n2) rfl hdst ?_
      repeat (first | refine xst ?_ | refine xar ?_ | refine xop ?_ | refine xlen ?_ | refine xld rfl ?_ | refine xsto rfl ?_ | refine xno ?_ | refine xt ?_ | refine xf ?_)
      have hput : (bsV xs ++ cs.drop n1).take off ++ (bsV ys).take (n2 * 1) ++ (bsV xs ++ cs.drop n1).drop (off + n2 * 1) = bsV xs ++ bsV ys ++ cs.drop (n1 + n2) := by
        rw [Nat.mul_one, List.take_of_length_le (l := bsV ys) (by omega)]
        rcases hoff with rfl | ⟨h0, rfl⟩
        · rw [List.take_append_of_le_length (by omega), List.take_of_length_le (l := bsV xs) (by omega), List.drop_append, List.drop_eq_nil_of_le (by omega), List.nil_append, hxl, Nat.add_sub_cancel_left, List.drop_drop]
        · subst h0
          have : bsV ys = [] := List.eq_nil_of_length_eq_zero hyl
          rw [this]; simp
      refine xcopy rfl (SrcOk.rs hr2 (bsV_one _)) n2 (Nat.min_self _) (bsV xs ++ bsV ys ++ cs.drop (n1 + n2)) hput (by rw [hrow]; omega) ?_
      repeat (refine xnot 89 ?_; first | refine xst ?_ | refine xar ?_ | refine xop ?_ | refine xlen ?_ | refine xld rfl ?_ | refine xsto rfl ?_ | refine xno ?_ | refine xt ?_ | refine xf ?_)
      refine xE 89 (.int .i64 ((n1 + n2 : Nat) : Int)) rfl (by rw [Int.natCast_add]) ?_
      repeat (first | refine xst ?_ | refine xar ?_ | refine xop ?_ | refine xlen ?_ | refine xld rfl ?_ | refine xsto rfl ?_ | refine xno ?_ | refine xt ?_ | refine xf ?_)
      exact G.fin 1 ⟨by omega, by omega⟩ ⟨rfl, rfl, rfl, rfl, rfl, rfl, trivial⟩ (by show Ent _ [pts b (bsV xs ++ bsV ys ++ cs.drop (n1 + n2))]; exact ent_pick)
    · refine xrep 0 (bsV xs ++ bsV ys ++ cs.drop (n1 + n2)) rfl rfl ?_
      repeat (first | refine xst ?_ | refine xar ?_ | refine xop ?_ | refine xlen ?_ | refine xld rfl ?_ | refine xsto rfl ?_ | refine xno ?_ | refine xt ?_ | refine xf ?_)
      refine G.slc (pk := ⟨remN_ent (n := 0) rfl⟩) 1 b 0 (n1 + n2) (n1 + n2) (bsV xs ++ bsV ys) [] (cs.drop (n1 + n2)) (by simp) rfl (by rw [List.length_append, hxl, hyl, Nat.mul_one]) (Nat.le_refl _) (by rw [List.length_append, hxl, hyl, Nat.mul_one]; omega) ?_
      refine xretp [0] ?_
      exact ⟨b, rfl, by rw [bsV_append]⟩
end Go.Proofs.YthlaacnjgdmakaaDoor

/- image.Chunk. -/
namespace Go.Proofs.YthlaacnjgdmakaaDoor
open Go.W

def chunkC (m : Man) (got : Nat) (at_ : Int) (n : Nat) : Int :=
  if m.ok = false ∨ (got : Int) > m.size then 1 else if at_ ≠ got then 4 else if (n : Int) > m.size - got then 7 else 0
theorem stg_fill {m : Man} (h : m.sum.length = 32) (x s : Value) : (m.v ++ [x]).take 35 ++ [s] ++ (m.v ++ [x]).drop (35 + 1) = stgV m s := by
  have hl := Man.v_len h
  rw [List.take_append_of_le_length (by omega), List.take_of_length_le (by omega), List.drop_eq_nil_of_le (by simp [hl]), List.append_nil]; rfl
theorem chunk_spec (m : Man) (hs : m.sum.length = 32) (a : Option Addr) (n cap : Nat) (got : List UInt8) (hn : n = got.length) (hl : n ≤ 1000000) (at_ : Int) (a2 : Option Addr) (n2 cap2 : Nat) (bs : List UInt8) (hn2 : n2 = bs.length) (_hl2 : n2 ≤ 1000000) :
    Fun Tryd.prog 19 [.agg (stgV m (.slice a n cap)).toArray, .int .i64 at_, .slice a2 n2 cap2] [slR 1 a n cap (bsV got), slR 1 a2 n2 cap2 (bsV bs)] []
    fun v H => ∃ s, v = .tuple #[.agg ⟨s⟩, .int .i64 (chunkC m n at_ n2)] ∧
      ((chunkC m n at_ n2 = 0 ∧ ∃ b, s = stgV m (.slice (some ⟨b, 0, none⟩) (n + n2) (n + n2)) ∧ H = [sl 1 (some ⟨b, 0, none⟩) (n + n2) (n + n2) (bsV (got ++ bs))]) ∨ (chunkC m n at_ n2 ≠ 0 ∧ s = stg0 ∧ H = [])) := by
  refine xenter (p := pg) Tryd.call19 Tryd.func19 fun C => ?_
  haveI hr1 := RP.slR (RP.of C (X := slR 1 a n cap (bsV got)) (by simp))
  haveI hr2 := RP.slR (RP.of C (X := slR 1 a2 n2 cap2 (bsV bs)) (by simp))
  have hsl := stgV_len hs (.slice a n cap)
  repeat (first | refine xst ?_ | refine xar ?_ | refine xop ?_ | refine xlen ?_ | refine xld rfl ?_ | refine xsto rfl ?_ | refine xno ?_ | refine xt ?_ | refine xf ?_)
  refine xnew fun b => ?_
  refine xnew fun b2 => ?_
  refine xrep 1 (stgV m (.slice a n cap)) rfl rfl ?_
  refine xrep 1 stg0 rfl rfl ?_
  have hsz : ∀ {i : TI}, i.agg = false → partF i (stgV m (.slice a n cap)) (0 + 0 + 2) = some (.int .i64 m.size) := fun ha => partF_one ha rfl
  have hbad : ∀ c : Int, c = chunkC m n at_ n2 → c ≠ 0 → ∃ s, Value.tuple #[.agg ⟨stg0⟩, .int .i64 c] = .tuple #[.agg ⟨s⟩, .int .i64 (chunkC m n at_ n2)] ∧
      ((chunkC m n at_ n2 = 0 ∧ ∃ b, s = stgV m (.slice (some ⟨b, 0, none⟩) (n + n2) (n + n2)) ∧ ([] : List HProp) = [sl 1 (some ⟨b, 0, none⟩) (n + n2) (n + n2) (bsV (got ++ bs))]) ∨ (chunkC m n at_ n2 ≠ 0 ∧ s = stg0 ∧ ([] : List HProp) = [])) := by
    rintro c rfl hc
    exact ⟨stg0, rfl, .inr ⟨hc, rfl, rfl⟩⟩
  repeat (first | refine xst ?_ | refine xar ?_ | refine xop ?_ | refine xlen ?_ | refine xld rfl ?_ | refine xsto rfl ?_ | refine xno ?_ | refine xt ?_ | refine xf ?_)
  refine xld rfl ?_ (hv := stgV_man hs _ rfl rfl)
  refine xcall (valid_spec m hs) ?_
  rintro v H ⟨rfl, rfl⟩
  refine G.app ?_
  repeat (first | refine xst ?_ | refine xar ?_ | refine xop ?_ | refine xlen ?_ | refine xld rfl ?_ | refine xsto rfl ?_ | refine xno ?_ | refine xt ?_ | refine xf ?_)
  refine xbb 17 (fun h1 => ?_) (fun h1 => ?_)
  · have h1 : m.ok = false := by simpa using h1
    repeat (first | refine xst ?_ | refine xar ?_ | refine xop ?_ | refine xlen ?_ | refine xld rfl ?_ | refine xsto rfl ?_ | refine xno ?_ | refine xt ?_ | refine xf ?_)
    refine xrep 0 stg0 rfl rfl ?_
    refine xretm [] rfl (.c (.t .nil) rfl rfl (partF_all rfl rfl)) ?_
    exact hbad 1 (by unfold chunkC; rw [if_pos (.inl h1)]) (by omega)
  · have h1 : m.ok = true := by simpa using h1
    have hsz2 : 4 ≤ m.size ∧ m.size ≤ 512 := by
      unfold Man.ok at h1; rw [decide_eq_true_eq] at h1; omega
    have hnk : ¬ (m.ok = false) := by rw [h1]; simp
    repeat (first | refine xst ?_ | refine xar ?_ | refine xop ?_ | refine xlen ?_ | refine xld rfl ?_ | refine xsto rfl ?_ | refine xno ?_ | refine xt ?_ | refine xf ?_)
    refine xld rfl ?_ (hv := stgV_got hs _ rfl)
    repeat (first | refine xst ?_ | refine xar ?_ | refine xop ?_ | refine xlen ?_ | refine xld rfl ?_ | refine xsto rfl ?_ | refine xno ?_ | refine xt ?_ | refine xf ?_)
    refine xd (fun h2 => ?_) (fun h2 => ?_)
    · repeat (first | refine xst ?_ | refine xar ?_ | refine xop ?_ | refine xlen ?_ | refine xld rfl ?_ | refine xsto rfl ?_ | refine xno ?_ | refine xt ?_ | refine xf ?_)
      refine xrep 0 stg0 rfl rfl ?_
      refine xretm [] rfl (.c (.t .nil) rfl rfl (partF_all rfl rfl)) ?_
      exact hbad 1 (by unfold chunkC; rw [if_pos (.inr h2)]) (by omega)
    · have e1 : ¬ (m.ok = false ∨ (n : Int) > m.size) := by rintro (h | h); exact hnk h; exact h2 h
      repeat (first | refine xst ?_ | refine xar ?_ | refine xop ?_ | refine xlen ?_ | refine xld rfl ?_ | refine xsto rfl ?_ | refine xno ?_ | refine xt ?_ | refine xf ?_)
      refine xld rfl ?_ (hv := stgV_got hs _ rfl)
      repeat (first | refine xst ?_ | refine xar ?_ | refine xop ?_ | refine xlen ?_ | refine xld rfl ?_ | refine xsto rfl ?_ | refine xno ?_ | refine xt ?_ | refine xf ?_)
      refine xd (fun h3 => ?_) (fun h3 => ?_)
      · repeat (first | refine xst ?_ | refine xar ?_ | refine xop ?_ | refine xlen ?_ | refine xld rfl ?_ | refine xsto rfl ?_ | refine xno ?_ | refine xt ?_ | refine xf ?_)
        refine xrep 0 stg0 rfl rfl ?_
        refine xretm [] rfl (.c (.t .nil) rfl rfl (partF_all rfl rfl)) ?_
        exact hbad 4 (by unfold chunkC; rw [if_neg e1, if_pos h3]) (by omega)
      · repeat (first | refine xst ?_ | refine xar ?_ | refine xop ?_ | refine xlen ?_ | refine xld rfl ?_ | refine xsto rfl ?_ | refine xno ?_ | refine xt ?_ | refine xf ?_)
        refine xld rfl ?_ (hv := stgV_got hs _ rfl)
        repeat (first | refine xst ?_ | refine xar ?_ | refine xop ?_ | refine xlen ?_ | refine xld rfl ?_ | refine xsto rfl ?_ | refine xno ?_ | refine xt ?_ | refine xf ?_)
        refine xd (fun h4 => ?_) (fun h4 => ?_)
        · repeat (first | refine xst ?_ | refine xar ?_ | refine xop ?_ | refine xlen ?_ | refine xld rfl ?_ | refine xsto rfl ?_ | refine xno ?_ | refine xt ?_ | refine xf ?_)
          refine xrep 0 stg0 rfl rfl ?_
          refine xretm [] rfl (.c (.t .nil) rfl rfl (partF_all rfl rfl)) ?_
          exact hbad 7 (by unfold chunkC; rw [if_neg e1, if_neg h3, if_pos h4]) (by omega)
        · have e0 : chunkC m n at_ n2 = 0 := by unfold chunkC; rw [if_neg e1, if_neg h3, if_neg h4]
          repeat (first | refine xst ?_ | refine xar ?_ | refine xop ?_ | refine xlen ?_ | refine xld rfl ?_ | refine xsto rfl ?_ | refine xno ?_ | refine xt ?_ | refine xf ?_)
          refine xdraw ?_
          refine xdop 0 ?_
          refine xdld 1 rfl rfl ?_ (hv := stgV_man hs _ rfl rfl)
          refine xdop 2 ?_
          refine xdld 3 rfl rfl ?_ (hv := stgV_got hs _ rfl)
          refine xdop 4 ?_
          refine xdact 5 ?_
          refine xbsl fun b3 => ?_
          refine xst ?_
          refine xdact 6 ?_
          refine xcall (join_spec b3 a a2 n cap n2 cap2 got bs hn hn2 (by omega)) ?_
          rintro v H ⟨b4, rfl, rfl⟩
          refine G.app ?_
          refine xst ?_
          refine xdbuild 7 (stgV m (.slice (some ⟨b4, 0, none⟩) (n + n2) (n + n2))) rfl rfl (fillF_cons rfl (Man.v_len hs) (by exact Nat.le_of_ble_eq_true rfl) (fillF_cons rfl rfl (by rw [show cellsL (.agg m.v.toArray) = m.v from rfl, List.length_append, List.length_append, Man.v_len hs]; exact Nat.le_of_ble_eq_true rfl) (congrArg some (stg_fill hs (.slice none 0 0) (.slice (some ⟨b4, 0, none⟩) (n + n2) (n + n2)))))) ?_
          refine xdact 8 ?_
          have hsl4 := stgV_len hs (.slice (some ⟨b4, 0, none⟩) (n + n2) (n + n2))
          refine xsta (cs := stgV m (.slice (some ⟨b4, 0, none⟩) (n + n2) (n + n2))) rfl hsl4 (stgV_one m rfl) (stgV m (.slice (some ⟨b4, 0, none⟩) (n + n2) (n + n2))) (put_all (by rw [hsl4]; rfl)) (by rw [hsl4]; exact Nat.le_of_ble_eq_true rfl) ?_
          refine xst ?_
          refine xdop 9 ?_
          refine xdend ?_
          repeat (first | refine xst ?_ | refine xar ?_ | refine xop ?_ | refine xlen ?_ | refine xld rfl ?_ | refine xsto rfl ?_ | refine xno ?_ | refine xt ?_ | refine xf ?_)
          refine xretm [0] rfl (.c (.t .nil) rfl rfl (partF_all rfl hsl4)) ?_
          rw [e0]
          exact ⟨_, rfl, .inl ⟨rfl, b4, rfl, rfl⟩⟩
end Go.Proofs.YthlaacnjgdmakaaDoor

/- image.Decode: the plain law. -/
namespace Go.Proofs.YthlaacnjgdmakaaDoor
open Go.W
theorem enc_len {m : Man} (hs : m.sum.length = 32) (h : m.ok = true) : (encM m).length = 40 := by
  unfold encM; rw [if_pos h]; simp [putB_length, hs]
theorem putB_small {l : List UInt8} {n : Nat} (h : l.length = n) : putB (numB l) n = l := by subst h; exact putB_numB l
theorem enc_of_parts {bs : List UInt8} {m : Man} (h40 : bs.length = 40) (h77 : numB (bs.take 1) = 77) (hp : m.part = (numB ((bs.drop 1).take 1) : Int)) (hv : m.ver = UInt32.ofNat (numB ((bs.drop 2).take 4)))
    (hz : m.size = (numB ((bs.drop 6).take 2) : Int)) (hsum : m.sum = (bs.drop 8).take 32) (hok : m.ok = true) : encM m = bs := by
  have l1 : (bs.take 1).length = 1 := by rw [List.length_take]; omega
  have l2 : ((bs.drop 1).take 1).length = 1 := by rw [List.length_take, List.length_drop]; omega
  have l3 : ((bs.drop 2).take 4).length = 4 := by rw [List.length_take, List.length_drop]; omega
  have l4 : ((bs.drop 6).take 2).length = 2 := by rw [List.length_take, List.length_drop]; omega
  have e0 : [77] = bs.take 1 := by
    have := putB_small l1
    rw [h77] at this
    rw [← this]; rfl
  have hvl : numB ((bs.drop 2).take 4) < 4294967296 := by have := numB_lt ((bs.drop 2).take 4); rw [l3] at this; exact this
  have ev : (UInt32.ofNat (numB ((bs.drop 2).take 4))).toNat = numB ((bs.drop 2).take 4) := by rw [UInt32.toNat_ofNat', Nat.mod_eq_of_lt hvl]
  unfold encM
  rw [if_pos hok, hp, hv, hz, hsum, Int.toNat_natCast, Int.toNat_natCast, ev, putB_small l2, putB_small l3, putB_small l4, e0]
  have e1 : bs.drop 8 = (bs.drop 8).take 32 := by rw [List.take_of_length_le (by rw [List.length_drop]; omega)]
  rw [← e1]
  have t1 : (bs.drop 6).take 2 ++ bs.drop 8 = bs.drop 6 := by
    have := List.take_append_drop 2 (bs.drop 6); rwa [List.drop_drop] at this
  have t2 : (bs.drop 2).take 4 ++ bs.drop 6 = bs.drop 2 := by
    have := List.take_append_drop 4 (bs.drop 2); rwa [List.drop_drop] at this
  have t3 : (bs.drop 1).take 1 ++ bs.drop 2 = bs.drop 1 := by
    have := List.take_append_drop 1 (bs.drop 1); rwa [List.drop_drop] at this
  rw [List.append_assoc, List.append_assoc, List.append_assoc, t1, t2, t3, List.take_append_drop]
theorem enc_parts {m : Man} (hs : m.sum.length = 32) (hok : m.ok = true) : numB ((encM m).take 1) = 77 ∧ (numB (((encM m).drop 1).take 1) : Int) = m.part ∧ numB (((encM m).drop 2).take 4) = m.ver.toNat ∧
    (numB (((encM m).drop 6).take 2) : Int) = m.size ∧ ((encM m).drop 8).take 32 = m.sum := by
  have hb : 0 ≤ m.part ∧ m.part < 8 ∧ 4 ≤ m.size ∧ m.size ≤ 512 := by unfold Man.ok at hok; rw [decide_eq_true_eq] at hok; omega
  have hv := m.ver.toNat_lt
  obtain ⟨p, hp⟩ : ∃ x, putB m.part.toNat 1 = x := ⟨_, rfl⟩
  obtain ⟨v, hv'⟩ : ∃ x, putB m.ver.toNat 4 = x := ⟨_, rfl⟩
  obtain ⟨z, hz⟩ : ∃ x, putB m.size.toNat 2 = x := ⟨_, rfl⟩
  have lp : p.length = 1 := by rw [← hp, putB_length]
  have lv : v.length = 4 := by rw [← hv', putB_length]
  have lz : z.length = 2 := by rw [← hz, putB_length]
  have e : encM m = [77] ++ (p ++ (v ++ (z ++ m.sum))) := by unfold encM; rw [if_pos hok, hp, hv', hz]; simp
  have n1 : numB p = m.part.toNat := by rw [← hp, numB_putB, Nat.mod_eq_of_lt (by omega)]
  have n2 : numB v = m.ver.toNat := by rw [← hv', numB_putB, Nat.mod_eq_of_lt (by omega)]
  have n3 : numB z = m.size.toNat := by rw [← hz, numB_putB, Nat.mod_eq_of_lt (by omega)]
  have d1 : (encM m).drop 1 = p ++ (v ++ (z ++ m.sum)) := by rw [e]; rfl
  have d2 : (encM m).drop 2 = v ++ (z ++ m.sum) := by
    rw [show (2 : Nat) = 1 + 1 from rfl, ← List.drop_drop, d1, List.drop_append_of_le_length (by omega), List.drop_eq_nil_of_le (by omega)]; rfl
  have d6 : (encM m).drop 6 = z ++ m.sum := by
    rw [show (6 : Nat) = 2 + 4 from rfl, ← List.drop_drop, d2, List.drop_append_of_le_length (by omega), List.drop_eq_nil_of_le (by omega)]; rfl
  have d8 : (encM m).drop 8 = m.sum := by
    rw [show (8 : Nat) = 6 + 2 from rfl, ← List.drop_drop, d6, List.drop_append_of_le_length (by omega), List.drop_eq_nil_of_le (by omega)]; rfl
  refine ⟨by rw [e]; rfl, ?_, ?_, ?_, ?_⟩
  · rw [d1, List.take_append_of_le_length (by omega), List.take_of_length_le (by omega), n1]; omega
  · rw [d2, List.take_append_of_le_length (by omega), List.take_of_length_le (by omega), n2]
  · rw [d6, List.take_append_of_le_length (by omega), List.take_of_length_le (by omega), n3]; omega
  · rw [d8, List.take_of_length_le (by omega)]
end Go.Proofs.YthlaacnjgdmakaaDoor

/- image.Decode. -/
namespace Go.Proofs.YthlaacnjgdmakaaDoor
open Go.W

theorem numB_small {bs : List UInt8} {at_ : Nat} {code : Int} {n : Nat} (_h : n ≤ 8) : numB (rdX bs at_ code n) < 256 ^ n :=
  Nat.lt_of_lt_of_le (numB_lt _) (Nat.pow_le_pow_right (by omega) rdX_len)
theorem rd_ok {bs : List UInt8} {at_ : Nat} {code : Int} {n : Nat} (h : (rdR bs at_ code n).2 = 0) :
    code = 0 ∧ at_ + n ≤ bs.length ∧ rdR bs at_ code n = (at_ + n, 0) ∧ rdX bs at_ code n = (bs.drop at_).take n := by
  unfold rdR at h
  by_cases hc : code = 0 ∧ at_ + n ≤ bs.length
  · exact ⟨hc.1, hc.2, by unfold rdR; rw [if_pos hc], by unfold rdX; rw [if_pos hc]⟩
  · rw [if_neg hc] at h
    by_cases h0 : code = 0
    · simp [h0] at h
    · simp [h0] at h
theorem rd_go {bs : List UInt8} {at_ n : Nat} (h : at_ + n ≤ bs.length) : rdR bs at_ 0 n = (at_ + n, 0) ∧ rdX bs at_ 0 n = (bs.drop at_).take n :=
  ⟨by unfold rdR; rw [if_pos ⟨rfl, h⟩], by unfold rdX; rw [if_pos ⟨rfl, h⟩]⟩
theorem dec_good {bs : List UInt8} {r1 r2 r3 r4 r5 : Nat × Int} {c1 : Int} (hr1 : rdR bs 0 0 1 = r1) (hc1 : (if r1.2 = 0 ∧ decide ((numB (rdX bs 0 0 1) : Int) = 77) = false then 3 else r1.2) = c1)
    (hr2 : rdR bs r1.1 c1 1 = r2) (hr3 : rdR bs r2.1 r2.2 4 = r3) (hr4 : rdR bs r3.1 r3.2 2 = r4) (hr5 : rdR bs r4.1 r4.2 32 = r5) (he : endF bs.length (r5.1, r5.2) = []) :
    bs.length = 40 ∧ numB (bs.take 1) = 77 ∧ rdX bs r1.1 c1 1 = (bs.drop 1).take 1 ∧ rdX bs r2.1 r2.2 4 = (bs.drop 2).take 4 ∧ rdX bs r3.1 r3.2 2 = (bs.drop 6).take 2 ∧ rdX bs r4.1 r4.2 32 = (bs.drop 8).take 32 := by
  have h5 : r5.2 = 0 ∧ ¬ r5.1 < bs.length := by
    unfold endF at he
    by_cases h : r5.2 = 0
    · by_cases h' : r5.1 < bs.length
      · simp [h, h'] at he
      · exact ⟨h, h'⟩
    · simp [h] at he
  rw [← hr5] at h5
  obtain ⟨a5, b5, e5, x5⟩ := rd_ok h5.1
  rw [← hr4] at a5
  obtain ⟨a4, b4, e4, x4⟩ := rd_ok a5
  rw [← hr3] at a4
  obtain ⟨a3, b3, e3, x3⟩ := rd_ok a4
  rw [← hr2] at a3
  obtain ⟨a2, b2, e2, x2⟩ := rd_ok a3
  have h1 : r1.2 = 0 := by
    rw [← hc1] at a2
    split at a2
    · omega
    · exact a2
  have h1' := h1
  rw [← hr1] at h1'
  obtain ⟨_, b1, e1, x1⟩ := rd_ok h1'
  have q1 : r1 = (0 + 1, 0) := by rw [← hr1, e1]
  have q2 : r2 = (r1.1 + 1, 0) := by rw [← hr2, e2]
  have q3 : r3 = (r2.1 + 4, 0) := by rw [← hr3, e3]
  have q4 : r4 = (r3.1 + 2, 0) := by rw [← hr4, e4]
  rw [e5] at h5
  have k1 : r1.1 = 1 := by rw [q1]
  have k2 : r2.1 = 2 := by rw [q2, k1]
  have k3 : r3.1 = 6 := by rw [q3, k2]
  have k4 : r4.1 = 8 := by rw [q4, k3]
  have h77 : numB (rdX bs 0 0 1) = 77 := by
    by_cases h : (numB (rdX bs 0 0 1) : Int) = 77
    · omega
    · rw [if_pos ⟨h1, by simp [h]⟩] at hc1; omega
  refine ⟨?_, by rw [x1] at h77; simpa using h77, by rw [x2, k1], by rw [x3, k2], by rw [x4, k3], by rw [x5, k4]⟩
  have := h5.2
  simp only at this
  omega
/-- What Decode answers: the manifest whose encoding the bytes are, or a fault. -/
def decR (bs : List UInt8) (m : Man) (l : List (Int × Int)) : Prop :=
  (l = [] ∧ m.ok = true ∧ encM m = bs) ∨ (l ≠ [] ∧ m = man0 ∧ ∀ m' : Man, m'.sum.length = 32 → m'.ok = true → encM m' ≠ bs)
theorem decodeM_spec (a : Option Addr) (n cap : Nat) (bs : List UInt8) (hn : n = bs.length) (hl : n ≤ 140737488355328) : Fun Tryd.prog 31 [.slice a n cap] [gErr, slR 1 a n cap (bsV bs)] []
    fun v H => ∃ m l e, m.sum.length = 32 ∧ v = .tuple #[.agg ⟨Man.v m⟩, e] ∧ oneC e = true ∧ H = [chain l e] ∧ decR bs m l := by
  subst hn
  refine xenter (p := pg) Tryd.call31 Tryd.func31 fun C => ?_
  haveI : RP C gErr := RP.of C (by simp)
  haveI hr := RP.slR (RP.of C (X := slR 1 a bs.length cap (bsV bs)) (by simp))
  repeat (first | refine xst ?_ | refine xar ?_ | refine xop ?_ | refine xlen ?_ | refine xld rfl ?_ | refine xsto rfl ?_ | refine xno ?_ | refine xt ?_ | refine xf ?_)
  refine xnew fun b => ?_
  refine xrep 0 man0.v rfl rfl ?_
  repeat (first | refine xst ?_ | refine xar ?_ | refine xop ?_ | refine xlen ?_ | refine xld rfl ?_ | refine xsto rfl ?_ | refine xno ?_ | refine xt ?_ | refine xf ?_)
  refine xcall (read_spec a bs.length cap bs rfl (by omega)) ?_
  rintro v H ⟨q, a', cap', rfl, hcap, rfl⟩
  refine G.app ?_
  repeat (first | refine xst ?_ | refine xar ?_ | refine xop ?_ | refine xlen ?_ | refine xld rfl ?_ | refine xsto rfl ?_ | refine xno ?_ | refine xt ?_ | refine xf ?_)
  refine xcall (num_spec q a' cap' 0 bs 0 1 (by omega) (by omega) (Nat.zero_le _) (by omega) hcap) ?_
  rintro v H ⟨rfl, rfl⟩
  refine G.app ?_
  repeat (first | refine xst ?_ | refine xar ?_ | refine xop ?_ | refine xlen ?_ | refine xld rfl ?_ | refine xsto rfl ?_ | refine xno ?_ | refine xt ?_ | refine xf ?_)
  obtain ⟨x1, hx1⟩ : ∃ x, rdX bs 0 0 1 = x := ⟨_, rfl⟩
  obtain ⟨r1, hr1⟩ : ∃ x, rdR bs 0 0 1 = x := ⟨_, rfl⟩
  have hl1 : r1.1 ≤ bs.length := by rw [← hr1]; exact rdR_le (Nat.zero_le _)
  refine xrep 0 [.slice a' bs.length cap', .int .i64 (r1.1 : Int), .int .i64 r1.2] rfl (by rw [hr1]; rfl) ?_
  refine xcall (must_spec q (.slice a' bs.length cap') r1.1 r1.2 3 (decide ((numB (rdX bs 0 0 1) : Int) = 77)) (by omega)) ?_
  rintro v H rfl
  refine G.app ?_
  obtain ⟨c1, hc1⟩ : ∃ c, (if r1.2 = 0 ∧ decide ((numB (rdX bs 0 0 1) : Int) = 77) = false then 3 else r1.2) = c := ⟨_, rfl⟩
  refine xrep 0 [.slice a' bs.length cap', .int .i64 (r1.1 : Int), .int .i64 c1] rfl (by rw [hc1]) ?_
  repeat (first | refine xst ?_ | refine xar ?_ | refine xop ?_ | refine xlen ?_ | refine xld rfl ?_ | refine xsto rfl ?_ | refine xno ?_ | refine xt ?_ | refine xf ?_)
  refine xnew fun b2 => ?_
  refine xrep 0 man0.v rfl rfl ?_
  repeat (first | refine xst ?_ | refine xar ?_ | refine xop ?_ | refine xlen ?_ | refine xld rfl ?_ | refine xsto rfl ?_ | refine xno ?_ | refine xt ?_ | refine xf ?_)
  refine xcall (num_spec q a' cap' r1.1 bs c1 1 (by omega) (by omega) hl1 (by omega) hcap) ?_
  rintro v H ⟨rfl, rfl⟩
  refine G.app ?_
  obtain ⟨p, hp⟩ : ∃ x, numB (rdX bs r1.1 c1 1) = x := ⟨_, rfl⟩
  obtain ⟨r2, hr2⟩ : ∃ x, rdR bs r1.1 c1 1 = x := ⟨_, rfl⟩
  have hl2 : r2.1 ≤ bs.length := by rw [← hr2]; exact rdR_le hl1
  have hp1 : p < 256 := by rw [← hp]; exact numB_small (n := 1) (by omega)
  refine xrep 0 [.slice a' bs.length cap', .int .i64 (r2.1 : Int), .int .i64 r2.2] rfl (by rw [hr2]; rfl) ?_
  repeat (refine xnot 16 ?_; first | refine xst ?_ | refine xar ?_ | refine xop ?_ | refine xlen ?_ | refine xld rfl ?_ | refine xsto rfl ?_ | refine xno ?_ | refine xt ?_ | refine xf ?_)
  refine xE 16 (.int .i64 (p : Int)) rfl (congrArg (Value.int .i64) (by rw [hp])) ?_
  repeat (first | refine xst ?_ | refine xar ?_ | refine xop ?_ | refine xlen ?_ | refine xld rfl ?_ | refine xsto rfl ?_ | refine xno ?_ | refine xt ?_ | refine xf ?_)
  refine xcall (num_spec q a' cap' r2.1 bs r2.2 4 (by omega) (by omega) hl2 (by omega) hcap) ?_
  rintro v H ⟨rfl, rfl⟩
  refine G.app ?_
  obtain ⟨ver, hver⟩ : ∃ x, numB (rdX bs r2.1 r2.2 4) = x := ⟨_, rfl⟩
  obtain ⟨r3, hr3⟩ : ∃ x, rdR bs r2.1 r2.2 4 = x := ⟨_, rfl⟩
  have hl3 : r3.1 ≤ bs.length := by rw [← hr3]; exact rdR_le hl2
  refine xrep 0 [.slice a' bs.length cap', .int .i64 (r3.1 : Int), .int .i64 r3.2] rfl (by rw [hr3]; rfl) ?_
  repeat (refine xnot 20 ?_; first | refine xst ?_ | refine xar ?_ | refine xop ?_ | refine xlen ?_ | refine xld rfl ?_ | refine xsto rfl ?_ | refine xno ?_ | refine xt ?_ | refine xf ?_)
  refine xE 20 (wV (UInt32.ofNat ver)) rfl (wE (by rw [hver]; exact w_wrap _)) ?_
  repeat (first | refine xst ?_ | refine xar ?_ | refine xop ?_ | refine xlen ?_ | refine xld rfl ?_ | refine xsto rfl ?_ | refine xno ?_ | refine xt ?_ | refine xf ?_)
  refine xcall (num_spec q a' cap' r3.1 bs r3.2 2 (by omega) (by omega) hl3 (by omega) hcap) ?_
  rintro v H ⟨rfl, rfl⟩
  refine G.app ?_
  obtain ⟨sz, hsz⟩ : ∃ x, numB (rdX bs r3.1 r3.2 2) = x := ⟨_, rfl⟩
  obtain ⟨r4, hr4⟩ : ∃ x, rdR bs r3.1 r3.2 2 = x := ⟨_, rfl⟩
  have hl4 : r4.1 ≤ bs.length := by rw [← hr4]; exact rdR_le hl3
  have hsz1 : sz < 65536 := by rw [← hsz]; exact numB_small (n := 2) (by omega)
  refine xrep 0 [.slice a' bs.length cap', .int .i64 (r4.1 : Int), .int .i64 r4.2] rfl (by rw [hr4]; rfl) ?_
  repeat (refine xnot 24 ?_; first | refine xst ?_ | refine xar ?_ | refine xop ?_ | refine xlen ?_ | refine xld rfl ?_ | refine xsto rfl ?_ | refine xno ?_ | refine xt ?_ | refine xf ?_)
  refine xE 24 (.int .i64 (sz : Int)) rfl (congrArg (Value.int .i64) (by rw [hsz])) ?_
  repeat (first | refine xst ?_ | refine xar ?_ | refine xop ?_ | refine xlen ?_ | refine xld rfl ?_ | refine xsto rfl ?_ | refine xno ?_ | refine xt ?_ | refine xf ?_)
  refine xdraw ?_
  refine xdop 0 ?_
  refine xdslice 1 0 32 rfl rfl rfl rfl (by omega) (by omega) ?_
  refine xE 27 (.slice (some ⟨b2, 3, none⟩) 32 32) rfl (congrArg (fun z => Value.slice z 32 32) ((subA_lt (by omega)).trans rfl)) ?_
  refine xdop 2 ?_
  refine xdact 3 ?_
  refine xcall (bytes_spec q a' cap' r4.1 bs r4.2 32 (by omega) hl4 (by omega) hcap) ?_
  rintro v H ⟨a3, c3, rfl, rfl⟩
  refine G.app ?_
  obtain ⟨sm, hsm⟩ : ∃ x, rdX bs r4.1 r4.2 32 = x := ⟨_, rfl⟩
  obtain ⟨r5, hr5⟩ : ∃ x, rdR bs r4.1 r4.2 32 = x := ⟨_, rfl⟩
  have hl5 : r5.1 ≤ bs.length := by rw [← hr5]; exact rdR_le hl4
  have hsml : sm.length ≤ 32 := by rw [← hsm]; exact rdX_len
  refine xE 29 (.slice a3 sm.length c3) rfl (by rw [hsm]) ?_
  refine xreH 0 (sl 1 a3 sm.length c3 (bsV sm)) rfl (by rw [hsm]) ?_
  refine xrep 1 [.slice a' bs.length cap', .int .i64 (r5.1 : Int), .int .i64 r5.2] rfl (by rw [hr5]; rfl) ?_
  refine xst ?_
  refine xdact 4 ?_
  obtain ⟨m, hm⟩ : ∃ m : Man, m = ⟨p, UInt32.ofNat ver, sz, sm ++ List.replicate (32 - sm.length) 0⟩ := ⟨_, rfl⟩
  have hms : m.sum.length = 32 := by rw [hm]; simp; omega
  have hcp : (Value.int .i64 (p : Int) :: wV (UInt32.ofNat ver) :: Value.int .i64 (sz : Int) :: bsV man0.sum).take 3 ++ (bsV sm).take (sm.length * 1) ++ (Value.int .i64 (p : Int) :: wV (UInt32.ofNat ver) :: Value.int .i64 (sz : Int) :: bsV man0.sum).drop (3 + sm.length * 1) = m.v := by
    rw [hm, Nat.mul_one, List.take_of_length_le (l := bsV sm) (by rw [bsV_length]; exact Nat.le_refl _)]
    have e1 : (Value.int .i64 (p : Int) :: wV (UInt32.ofNat ver) :: Value.int .i64 (sz : Int) :: bsV man0.sum).drop (3 + sm.length) = bsV (List.replicate (32 - sm.length) 0) := by
      rw [Nat.add_comm]
      show (bsV man0.sum).drop sm.length = _
      rw [bsV_drop, show man0.sum = List.replicate 32 0 from rfl, List.drop_replicate]
    rw [e1]
    unfold Man.v
    rw [bsV_append]; rfl
  refine xcopy rfl (SrcOk.sl (ys := bsV sm) (by rw [bsV_length, Nat.mul_one]) (bsV_one _)) sm.length (Nat.min_eq_left hsml) m.v hcp (by show 3 + sm.length * 1 ≤ 35; omega) ?_
  refine xst ?_
  refine xdend ?_
  repeat (first | refine xst ?_ | refine xar ?_ | refine xop ?_ | refine xlen ?_ | refine xld rfl ?_ | refine xsto rfl ?_ | refine xno ?_ | refine xt ?_ | refine xf ?_)
  refine xcall (end_spec q a' bs.length cap' r5.1 r5.2 hl5 (by omega)) ?_
  rintro e H rfl
  refine G.app ?_
  obtain ⟨ch, hch⟩ : ∃ x, endF bs.length (r5.1, r5.2) = x := ⟨_, rfl⟩
  refine xreH 0 (chain ch e) rfl (by rw [hch]) ?_
  have hml := Man.v_len hms
  cases ch with
  | nil =>
    refine G.fact (chain [] e) (P := e = .nilIface) (fun w F h => h) fun h => ?_
    subst h
    repeat (first | refine xst ?_ | refine xar ?_ | refine xop ?_ | refine xlen ?_ | refine xld rfl ?_ | refine xsto rfl ?_ | refine xno ?_ | refine xt ?_ | refine xf ?_)
    refine xld rfl ?_ (hv := partF_all rfl hml)
    refine xcall (valid_spec m hms) ?_
    rintro v2 H ⟨rfl, rfl⟩
    refine G.app ?_
    repeat (first | refine xst ?_ | refine xar ?_ | refine xop ?_ | refine xlen ?_ | refine xld rfl ?_ | refine xsto rfl ?_ | refine xno ?_ | refine xt ?_ | refine xf ?_)
    refine xb (fun h1 => ?_) (fun h1 => ?_)
    · have h1 : m.ok = false := by simpa using h1
      repeat (first | refine xst ?_ | refine xar ?_ | refine xop ?_ | refine xlen ?_ | refine xld rfl ?_ | refine xsto rfl ?_ | refine xno ?_ | refine xt ?_ | refine xf ?_)
      refine xcall (new_spec 1 40) ?_
      rintro e H rfl
      refine G.app ?_
      refine G.fact (chain (newF 1 40) e) (P := oneC e = true) (fun w F h => chain_one h) fun he => ?_
      repeat (first | refine xst ?_ | refine xar ?_ | refine xop ?_ | refine xlen ?_ | refine xld rfl ?_ | refine xsto rfl ?_ | refine xno ?_ | refine xt ?_ | refine xf ?_)
      refine xrep 6 man0.v rfl rfl ?_
      refine xretm [1] rfl (.c (.t .nil) rfl rfl (partF_all rfl rfl)) ?_
      refine ⟨man0, newF 1 40, e, rfl, rfl, he, rfl, .inr ⟨by decide, rfl, ?_⟩⟩
      intro m' hs' hok' henc
      obtain ⟨h40, h77, y2, y3, y4, y5⟩ := dec_good hr1 hc1 hr2 hr3 hr4 hr5 hch
      have hq := enc_parts hs' hok'
      rw [henc] at hq
      have e1 : m.part = m'.part := by rw [hm, ← hq.2.1, ← y2, hp]
      have e2 : m.size = m'.size := by rw [hm, ← hq.2.2.2.1, ← y4, hsz]
      have : m.ok = m'.ok := by unfold Man.ok; rw [e1, e2]
      rw [this, hok'] at h1; cases h1
    · have h1 : m.ok = true := by simpa using h1
      repeat (first | refine xst ?_ | refine xar ?_ | refine xop ?_ | refine xlen ?_ | refine xld rfl ?_ | refine xsto rfl ?_ | refine xno ?_ | refine xt ?_ | refine xf ?_)
      refine xld rfl ?_ (hv := partF_all rfl hml)
      refine xsta (cs := m.v) rfl hml m.v_one m.v (put_all (by rw [hml]; rfl)) (by rw [hml]; exact Nat.le_of_ble_eq_true rfl) ?_
      repeat (first | refine xst ?_ | refine xar ?_ | refine xop ?_ | refine xlen ?_ | refine xld rfl ?_ | refine xsto rfl ?_ | refine xno ?_ | refine xt ?_ | refine xf ?_)
      refine xretm [0] rfl (.c (.t .nil) rfl rfl (partF_all rfl hml)) ?_
      refine ⟨m, [], .nilIface, hms, rfl, rfl, rfl, .inl ⟨rfl, h1, ?_⟩⟩
      obtain ⟨h40, h77, y2, y3, y4, y5⟩ := dec_good hr1 hc1 hr2 hr3 hr4 hr5 hch
      have hsm32 : sm.length = 32 := by rw [← hsm, y5, List.length_take, List.length_drop]; omega
      refine enc_of_parts h40 h77 (by rw [hm, ← y2, hp]) (by rw [hm, ← y3, hver]) (by rw [hm, ← y4, hsz]) ?_ h1
      rw [hm]
      show sm ++ List.replicate (32 - sm.length) 0 = _
      rw [hsm32, ← y5, hsm]; simp
  | cons qq rr =>
    obtain ⟨c, x⟩ := qq
    refine G.fact (chain ((c, x) :: rr) e) (P := ∃ b : Nat, e = .iface 128 (.pointer (some ⟨b, 0, none⟩))) (fun w F h => by obtain ⟨b, u, F1, F2, ⟨h1, h2⟩, _⟩ := h; exact ⟨b, h1⟩) fun h => ?_
    obtain ⟨b3, rfl⟩ := h
    repeat (first | refine xst ?_ | refine xar ?_ | refine xop ?_ | refine xlen ?_ | refine xld rfl ?_ | refine xsto rfl ?_ | refine xno ?_ | refine xt ?_ | refine xf ?_)
    refine xcall (in_spec ((c, x) :: rr) (.iface 128 (.pointer (some ⟨b3, 0, none⟩))) 0 rfl) ?_
    rintro e H rfl
    refine G.app ?_
    refine G.fact (chain (inF ((c, x) :: rr) 0) e) (P := oneC e = true) (fun w F h => chain_one h) fun he => ?_
    repeat (first | refine xst ?_ | refine xar ?_ | refine xop ?_ | refine xlen ?_ | refine xld rfl ?_ | refine xsto rfl ?_ | refine xno ?_ | refine xt ?_ | refine xf ?_)
    refine xrep 5 man0.v rfl rfl ?_
    refine xretm [1] rfl (.c (.t .nil) rfl rfl (partF_all rfl rfl)) ?_
    refine ⟨man0, inF ((c, x) :: rr) 0, e, rfl, rfl, he, rfl, .inr ⟨by simp [inF], rfl, ?_⟩⟩
    intro m' hs' hok' henc
    have h40 := enc_len hs' hok'
    have hq := (enc_parts hs' hok').1
    rw [henc] at h40 hq
    have g1 := rd_go (bs := bs) (at_ := 0) (n := 1) (by omega)
    have q1 : r1 = (0 + 1, 0) := by rw [← hr1, g1.1]
    have k1 : c1 = 0 := by
      rw [← hc1, q1, if_neg (by rintro ⟨_, h⟩; rw [g1.2] at h; simp [hq] at h)]
    have q2 : r2 = (0 + 1 + 1, 0) := by rw [← hr2, q1, k1]; exact (rd_go (by omega)).1
    have q3 : r3 = (0 + 1 + 1 + 4, 0) := by rw [← hr3, q2]; exact (rd_go (by omega)).1
    have q4 : r4 = (0 + 1 + 1 + 4 + 2, 0) := by rw [← hr4, q3]; exact (rd_go (by omega)).1
    have q5 : r5 = (0 + 1 + 1 + 4 + 2 + 32, 0) := by rw [← hr5, q4]; exact (rd_go (by omega)).1
    rw [q5, h40] at hch
    simp [endF] at hch
end Go.Proofs.YthlaacnjgdmakaaDoor

/- strings.Builder: what turns a pointer to itself (after the shelf's Builder1, turned to this translation's numbers). -/
namespace Go.Proofs.YthlaacnjgdmakaaDoor
open Go.RowKit

set_option maxHeartbeats 1000000 in
set_option maxRecDepth 100000 in
theorem copyCheck_used (b : Nat) (w : World) (h0 : w.cell? ⟨b, 0, none⟩ = some (.pointer (some ⟨b, 0, none⟩))) :
    Calls Tryd.prog 93 #[.pointer (some ⟨b, 0, none⟩)] w fun e w' => e = .returned (.tuple #[]) ∧ w' = w := by
  go_enter Tryd.func93, Tryd.ntmps93
  go_wp2
  rw [Lib.run_neq_ptr_same w _ Tryd.underlying125 (j := Tryd.t127) (Go.W.info_of Tryd.type127)]
  go_wp2
  go_end0
  exact ⟨rfl, rfl⟩

set_option maxHeartbeats 1000000 in
set_option maxRecDepth 100000 in
theorem copyCheck_fresh (b : Nat) (w : World) (h0 : w.cell? ⟨b, 0, none⟩ = some (.pointer none)) (hsh : w.shape? b = some (127, 2)) (hfz : w.frozen? ⟨b, 0, none⟩ = false) :
    Calls Tryd.prog 93 #[.pointer (some ⟨b, 0, none⟩)] w fun e w' => e = .returned (.tuple #[]) ∧ w' = w.setCell ⟨b, 0, none⟩ (.pointer (some ⟨b, 0, none⟩)) := by
  have hj := Go.W.info_of Tryd.type127
  go_enter Tryd.func93, Tryd.ntmps93
  go_wp2
  rw [Lib.run_to_unsafe w ⟨b, 0, none⟩ Tryd.underlying125 Tryd.underlying170 hj (by decide) hsh (Nat.zero_lt_succ 1)]
  simp only [Result.andThen]
  rw [Oper.upon_value]
  go_wp2
  rw [run_callFunc_extern Tryd.func104 (by kernel_rfl) (by kernel_rfl) (by kernel_rfl) (e := Extern.AbiNoEscape.same) (by kernel_rfl)]
  rw [Lib.run_noEscape]
  simp only [Result.andThen]
  rw [Oper.upon_value]
  go_wp2
  rw [Lib.run_from_unsafe w ⟨b, 0, none⟩ Tryd.underlying170 Tryd.underlying125 hj hsh (by kernel_rfl)]
  simp only [Result.andThen]
  rw [Oper.upon_value]
  go_wp2
  go_end0
  exact ⟨rfl, rfl⟩
end Go.Proofs.YthlaacnjgdmakaaDoor

/- strings.Builder and strconv.Itoa (small numbers): contracts; fault.Text of one fault. -/
namespace Go.Proofs.YthlaacnjgdmakaaDoor
open Go.W

theorem copyF (b : Nat) (s : Value) : Fun Tryd.prog 93 [.pointer (some ⟨b, 0, none⟩)] [] [ptT 127 b [.pointer none, s]]
    fun v H => v = .tuple #[] ∧ H = [pts b [.pointer (some ⟨b, 0, none⟩), s]] := by
  refine Fun.of_calls Tryd.call93 fun w F _ hs hi => ?_
  obtain ⟨F1, F2, ⟨hb, ho⟩, -, hd, ha, -⟩ := hs
  refine (copyCheck_fresh b w (ho.own.blk.cell rfl) ho.shape (ho.own.free (by simp))).mono ?_
  rintro e w' ⟨rfl, rfl⟩
  refine ⟨_, _, F, rfl, ⟨rfl, rfl⟩, ⟨F, fun _ => False, ⟨ha b hb, (ho.set 0 _).own⟩, trivial, fun _ _ h => h, fun _ h => h, fun _ h => h.elim⟩, ?_⟩
  exact Wrote.fr (w := w) (b := b) ⟨fun c hc => setCell_other hc, setCell_size, rfl, rfl, rfl⟩ (Fr.refl hi) (ha b hb)
theorem copyU (b : Nat) (s : Value) : Fun Tryd.prog 93 [.pointer (some ⟨b, 0, none⟩)] [] [pts b [.pointer (some ⟨b, 0, none⟩), s]]
    fun v H => v = .tuple #[] ∧ H = [pts b [.pointer (some ⟨b, 0, none⟩), s]] := by
  refine Fun.of_calls Tryd.call93 fun w F _ hs hi => ?_
  have hs' := hs
  obtain ⟨F1, F2, ⟨hb, ho⟩, -, hd, ha, -⟩ := hs
  refine (copyCheck_used b w (ho.blk.cell rfl)).mono ?_
  rintro e w' ⟨rfl, rfl⟩
  exact ⟨_, _, F, rfl, ⟨rfl, rfl⟩, hs', Fr.refl hi⟩

theorem bld_len (b : Nat) (p : Value) (a : Option Addr) (n cap : Nat) : Fun Tryd.prog 66 [.pointer (some ⟨b, 0, none⟩)] [rdb b [p, .slice a n cap]] []
    fun v H => v = .int .i64 n ∧ H = [] := by
  refine xenter (p := pg) Tryd.call66 Tryd.func66 fun C => ?_
  haveI := RP.rdb (RP.of C (X := rdb b [p, .slice a n cap]) (by simp))
  repeat (first | refine xst ?_ | refine xar ?_ | refine xop ?_ | refine xlen ?_ | refine xld rfl ?_ | refine xsto rfl ?_ | refine xno ?_ | refine xt ?_ | refine xf ?_)
  exact xret [] ⟨rfl, rfl⟩

theorem byteCells_bs (bs : List UInt8) : byteCells ⟨bs.toArray⟩ = bsV bs := by
  simp [byteCells, bsV]; intros; rfl
theorem srcStr {fn : Func} {rd : List HProp} {post : Post} {C : Ctx pg fn rd post} {H : List HProp} (bs : List UInt8) : SrcOk C H 1 (bsS bs) bs.length (bsV bs) := by
  have := SrcOk.str (C := C) (H := H) ⟨bs.toArray⟩
  rw [byteCells_bs] at this
  exact this

/-- A builder's memory: as new, or with bytes. -/
abbrev bldH (b : Nat) (a : Option Addr) (cap : Nat) (bs : List UInt8) : List HProp := [pts b [.pointer (some ⟨b, 0, none⟩), .slice a bs.length cap], rowT 5 a bs.length cap (bsV bs)]
theorem wstrF (b : Nat) (bs : List UInt8) (hl : bs.length ≤ 1000000) : Fun Tryd.prog 68 [.pointer (some ⟨b, 0, none⟩), bsS bs] [] [ptT 127 b [.pointer none, .slice none 0 0]]
    fun v H => ∃ n a cap, v = .tuple #[.int .i64 n, .nilIface] ∧ H = bldH b a cap bs := by
  refine xenter (p := pg) Tryd.call68 Tryd.func68 fun C => ?_
  repeat (first | refine xst ?_ | refine xar ?_ | refine xop ?_ | refine xlen ?_ | refine xld rfl ?_ | refine xsto rfl ?_ | refine xno ?_ | refine xt ?_ | refine xf ?_)
  refine xcall (copyF b (.slice none 0 0)) ?_
  rintro v H ⟨rfl, rfl⟩
  refine G.app ?_
  refine G.rown 5 ?_
  repeat (first | refine xst ?_ | refine xar ?_ | refine xop ?_ | refine xlen ?_ | refine xld rfl ?_ | refine xsto rfl ?_ | refine xno ?_ | refine xt ?_ | refine xf ?_)
  refine xappT [] rfl rfl (srcStr bs) (by omega) fun a cap => ?_
  repeat (first | refine xst ?_ | refine xar ?_ | refine xop ?_ | refine xlen ?_ | refine xld rfl ?_ | refine xsto rfl ?_ | refine xno ?_ | refine xt ?_ | refine xf ?_)
  refine xretp [1, 0] ?_
  refine ⟨_, a, cap, rfl, ?_⟩
  simp [bldH]

theorem wstrU (b : Nat) (a : Option Addr) (cap : Nat) (os bs : List UInt8) (hl : os.length + bs.length ≤ 1000000) : Fun Tryd.prog 68 [.pointer (some ⟨b, 0, none⟩), bsS bs] [] (bldH b a cap os)
    fun v H => ∃ n a cap, v = .tuple #[.int .i64 n, .nilIface] ∧ H = bldH b a cap (os ++ bs) := by
  refine xenter (p := pg) Tryd.call68 Tryd.func68 fun C => ?_
  show G C _ _ [pts b [.pointer (some ⟨b, 0, none⟩), .slice a os.length cap], rowT 5 a os.length cap (bsV os)]
  repeat (first | refine xst ?_ | refine xar ?_ | refine xop ?_ | refine xlen ?_ | refine xld rfl ?_ | refine xsto rfl ?_ | refine xno ?_ | refine xt ?_ | refine xf ?_)
  refine xcall (copyU b (.slice a os.length cap)) ?_
  rintro v H ⟨rfl, rfl⟩
  refine G.app ?_
  repeat (first | refine xst ?_ | refine xar ?_ | refine xop ?_ | refine xlen ?_ | refine xld rfl ?_ | refine xsto rfl ?_ | refine xno ?_ | refine xt ?_ | refine xf ?_)
  refine xappT (bsV os) rfl rfl (srcStr bs) (by omega) fun a cap => ?_
  repeat (first | refine xst ?_ | refine xar ?_ | refine xop ?_ | refine xlen ?_ | refine xld rfl ?_ | refine xsto rfl ?_ | refine xno ?_ | refine xt ?_ | refine xf ?_)
  refine xretp [1, 0] ?_
  refine ⟨_, a, cap, rfl, ?_⟩
  simp [bldH, bsV_append]
theorem wbyte (b : Nat) (a : Option Addr) (cap : Nat) (os : List UInt8) (c : UInt8) (hl : os.length ≤ 1000000) : Fun Tryd.prog 67 [.pointer (some ⟨b, 0, none⟩), bV c] [] (bldH b a cap os)
    fun v H => ∃ a cap, v = .nilIface ∧ H = bldH b a cap (os ++ [c]) := by
  refine xenter (p := pg) Tryd.call67 Tryd.func67 fun C => ?_
  show G C _ _ [pts b [.pointer (some ⟨b, 0, none⟩), .slice a os.length cap], rowT 5 a os.length cap (bsV os)]
  repeat (first | refine xst ?_ | refine xar ?_ | refine xop ?_ | refine xlen ?_ | refine xld rfl ?_ | refine xsto rfl ?_ | refine xno ?_ | refine xt ?_ | refine xf ?_)
  refine xcall (copyU b (.slice a os.length cap)) ?_
  rintro v H ⟨rfl, rfl⟩
  refine G.app ?_
  repeat (first | refine xst ?_ | refine xar ?_ | refine xop ?_ | refine xlen ?_ | refine xld rfl ?_ | refine xsto rfl ?_ | refine xno ?_ | refine xt ?_ | refine xf ?_)
  refine xbsl fun b3 => ?_
  repeat (first | refine xst ?_ | refine xar ?_ | refine xop ?_ | refine xlen ?_ | refine xld rfl ?_ | refine xsto rfl ?_ | refine xno ?_ | refine xt ?_ | refine xf ?_)
  refine xappT (bsV os) rfl rfl (SrcOk.blk (ys := bsV [c]) rfl (by simp) (bsV_one _)) (by omega) fun a cap => ?_
  repeat (first | refine xst ?_ | refine xar ?_ | refine xop ?_ | refine xlen ?_ | refine xld rfl ?_ | refine xsto rfl ?_ | refine xno ?_ | refine xt ?_ | refine xf ?_)
  refine xretp [2, 0] ?_
  refine ⟨a, cap, rfl, ?_⟩
  simp [bldH, bsV_append]
theorem bstr (b : Nat) (a : Option Addr) (cap : Nat) (bs : List UInt8) (h0 : 0 < bs.length) (hl : bs.length ≤ 1000000) : Fun Tryd.prog 70 [.pointer (some ⟨b, 0, none⟩)] [] (bldH b a cap bs)
    fun v H => v = bsS bs ∧ H = [] := by
  refine xenter (p := pg) Tryd.call70 Tryd.func70 fun C => ?_
  show G C _ _ [pts b [.pointer (some ⟨b, 0, none⟩), .slice a bs.length cap], rowT 5 a bs.length cap (bsV bs)]
  refine G.fact (rowT 5 a bs.length cap (bsV bs)) (P := ∃ g : Nat, a = some ⟨g, 0, none⟩ ∧ cap ≠ 0) (fun w F h => ?_) fun h => ?_
  · obtain ⟨h1, h2, h3⟩ := h
    cases a with
    | none => simp only at h3; omega
    | some ad =>
      obtain ⟨q1, q2, _⟩ := h3
      obtain ⟨g, off, spot⟩ := ad
      simp only at q1 q2
      subst q1; subst q2
      exact ⟨g, rfl, by omega⟩
  obtain ⟨g, rfl, hc⟩ := h
  repeat (first | refine xst ?_ | refine xar ?_ | refine xop ?_ | refine xlen ?_ | refine xld rfl ?_ | refine xsto rfl ?_ | refine xno ?_ | refine xt ?_ | refine xf ?_)
  refine xdraw ?_
  refine xdop 0 ?_
  refine xdop 1 ?_
  refine xdop 2 ?_
  refine xdld 3 rfl rfl ?_
  refine xdop 5 ?_
  refine xdop 6 ?_
  refine xdop 7 ?_
  refine xdld 8 rfl rfl ?_
  refine xdlen 9 ?_
  refine xdact 4 ?_
  refine xusd rfl hc ?_
  refine xst ?_
  refine xdact 10 ?_
  refine xusn (bs := bs) (cap := cap) (n := bs.length) rfl rfl h0 (by omega) ?_
  refine xst ?_
  refine xdop 11 ?_
  refine xdend ?_
  repeat (first | refine xst ?_ | refine xar ?_ | refine xop ?_ | refine xlen ?_ | refine xld rfl ?_ | refine xsto rfl ?_ | refine xno ?_ | refine xt ?_ | refine xf ?_)
  exact xret [] ⟨rfl, rfl⟩

/-! ## strconv.Itoa of one digit, or of two -/
def dig (k : Nat) : List UInt8 := if k < 10 then [UInt8.ofNat (48 + k)] else [UInt8.ofNat (48 + k / 10), UInt8.ofNat (48 + k % 10)]
theorem dig_len (k : Nat) : 0 < (dig k).length ∧ (dig k).length ≤ 2 := by unfold dig; split <;> simp
def digs : ByteArray := ⟨(((List.range 100).flatMap fun k => [UInt8.ofNat (48 + k / 10), UInt8.ofNat (48 + k % 10)])).toArray⟩
theorem digs_at : ∀ k, k < 100 → ¬ k < 10 → digs.extract (k * 2) (k * 2 + 2) = ⟨(dig k).toArray⟩ := by decide +kernel
set_option maxRecDepth 10000 in
theorem small_spec (k : Nat) (hk : k < 100) : Fun Tryd.prog 111 [.int .i64 k] [] [] fun v H => v = bsS (dig k) ∧ H = [] := by
  refine xenter (p := pg) Tryd.call111 Tryd.func111 fun C => ?_
  repeat (first | refine xst ?_ | refine xar ?_ | refine xop ?_ | refine xlen ?_ | refine xld rfl ?_ | refine xsto rfl ?_ | refine xno ?_ | refine xt ?_ | refine xf ?_)
  refine xd (q := (k : Int) < 10) (fun h => ?_) (fun h => ?_)
  · have h : k < 10 := by omega
    repeat (first | refine xst ?_ | refine xar ?_ | refine xop ?_ | refine xlen ?_ | refine xld rfl ?_ | refine xsto rfl ?_ | refine xno ?_ | refine xt ?_ | refine xf ?_)
    refine xssl k (k + 1) rfl rfl rfl (by omega) ?_ ?_
    · show k + 1 ≤ 36
      omega
    refine xE 8 (bsS (dig k)) rfl ?_ ?_
    · match k, h with
      | 0, _ => rfl
      | 1, _ => rfl
      | 2, _ => rfl
      | 3, _ => rfl
      | 4, _ => rfl
      | 5, _ => rfl
      | 6, _ => rfl
      | 7, _ => rfl
      | 8, _ => rfl
      | 9, _ => rfl
    repeat (first | refine xst ?_ | refine xar ?_ | refine xop ?_ | refine xlen ?_ | refine xld rfl ?_ | refine xsto rfl ?_ | refine xno ?_ | refine xt ?_ | refine xf ?_)
    exact xret [] ⟨rfl, rfl⟩
  · have h : ¬ k < 10 := by omega
    repeat (first | refine xst ?_ | refine xar ?_ | refine xop ?_ | refine xlen ?_ | refine xld rfl ?_ | refine xsto rfl ?_ | refine xno ?_ | refine xt ?_ | refine xf ?_)
    refine xssl (s := digs) (lo' := (k : Int) * 2) (hi' := (k : Int) * 2 + 2) (k * 2) (k * 2 + 2) (by kernel_rfl) (by omega) (by omega) (by omega) (by show k * 2 + 2 ≤ 200; omega) ?_
    refine xE 14 (bsS (dig k)) rfl (congrArg Value.string (digs_at k hk h)) ?_
    repeat (first | refine xst ?_ | refine xar ?_ | refine xop ?_ | refine xlen ?_ | refine xld rfl ?_ | refine xsto rfl ?_ | refine xno ?_ | refine xt ?_ | refine xf ?_)
    exact xret [] ⟨rfl, rfl⟩
theorem fmtInt_spec (k : Nat) (hk : k < 100) : Fun Tryd.prog 105 [.int .i64 k, .int .i64 10] [] [] fun v H => v = bsS (dig k) ∧ H = [] := by
  refine xenter (p := pg) Tryd.call105 Tryd.func105 fun C => ?_
  repeat (first | refine xst ?_ | refine xar ?_ | refine xop ?_ | refine xlen ?_ | refine xld rfl ?_ | refine xsto rfl ?_ | refine xno ?_ | refine xt ?_ | refine xf ?_)
  refine xy (q := (k : Int) < 100) (by omega) ?_
  repeat (first | refine xst ?_ | refine xar ?_ | refine xop ?_ | refine xlen ?_ | refine xld rfl ?_ | refine xsto rfl ?_ | refine xno ?_ | refine xt ?_ | refine xf ?_)
  refine xcall (small_spec k hk) ?_
  rintro v H ⟨rfl, rfl⟩
  refine G.app ?_
  repeat (first | refine xst ?_ | refine xar ?_ | refine xop ?_ | refine xlen ?_ | refine xld rfl ?_ | refine xsto rfl ?_ | refine xno ?_ | refine xt ?_ | refine xf ?_)
  exact xret [] ⟨rfl, rfl⟩
theorem itoa_spec (k : Nat) (hk : k < 100) : Fun Tryd.prog 69 [.int .i64 k] [] [] fun v H => v = bsS (dig k) ∧ H = [] := by
  refine xenter (p := pg) Tryd.call69 Tryd.func69 fun C => ?_
  repeat (first | refine xst ?_ | refine xar ?_ | refine xop ?_ | refine xlen ?_ | refine xld rfl ?_ | refine xsto rfl ?_ | refine xno ?_ | refine xt ?_ | refine xf ?_)
  refine xcall (post' := fun v H => v = bsS (dig k) ∧ H = []) (rs := []) (X := []) ?_ ?_
  · refine xenter (p := pg) Tryd.call94 Tryd.func94 fun C => ?_
    repeat (first | refine xst ?_ | refine xar ?_ | refine xop ?_ | refine xlen ?_ | refine xld rfl ?_ | refine xsto rfl ?_ | refine xno ?_ | refine xt ?_ | refine xf ?_)
    refine xcall (fmtInt_spec k hk) ?_
    rintro v H ⟨rfl, rfl⟩
    refine G.app ?_
    repeat (first | refine xst ?_ | refine xar ?_ | refine xop ?_ | refine xlen ?_ | refine xld rfl ?_ | refine xsto rfl ?_ | refine xno ?_ | refine xt ?_ | refine xf ?_)
    exact xret [] ⟨rfl, rfl⟩
  rintro v H ⟨rfl, rfl⟩
  refine G.app ?_
  repeat (first | refine xst ?_ | refine xar ?_ | refine xop ?_ | refine xlen ?_ | refine xld rfl ?_ | refine xsto rfl ?_ | refine xno ?_ | refine xt ?_ | refine xf ?_)
  exact xret [] ⟨rfl, rfl⟩

theorem text_spec (c x : Nat) (v : Value) (hc : c < 100) (hx : x < 100) : Fun Tryd.prog 37 [v] [gErr, chain [((c : Int), (x : Int))] v] [] fun u H => u = bsS (dig c ++ [64] ++ dig x) ∧ H = [] := by
  refine xenter (p := pg) Tryd.call37 Tryd.func37 fun C => ?_
  haveI := RP.of C (X := gErr) (by simp)
  haveI hch := RP.of C (X := chain [((c : Int), (x : Int))] v) (by simp)
  have hcl := dig_len c
  have hxl := dig_len x
  repeat (first | refine xst ?_ | refine xar ?_ | refine xop ?_ | refine xlen ?_ | refine xld rfl ?_ | refine xsto rfl ?_ | refine xno ?_ | refine xt ?_ | refine xf ?_)
  refine xnewT fun b => ?_
  repeat (first | refine xst ?_ | refine xar ?_ | refine xop ?_ | refine xlen ?_ | refine xld rfl ?_ | refine xsto rfl ?_ | refine xno ?_ | refine xt ?_ | refine xf ?_)
  refine xcall (outer_spec [((c : Int), (x : Int))] v) ?_
  rintro u H ⟨rfl, h⟩
  refine G.app ?_
  obtain ⟨fb, hv, rfl⟩ := h
  obtain ⟨b', u', hv', hu', hb, hr⟩ := chain_rd hch
  rw [hv] at hv'
  simp at hv'
  subst hv'
  subst hv
  have hu0 := chain_rd0 hr
  subst hu0
  repeat (first | refine xst ?_ | refine xar ?_ | refine xop ?_ | refine xlen ?_ | refine xld rfl ?_ | refine xsto rfl ?_ | refine xno ?_ | refine xt ?_ | refine xf ?_)
  refine G.loop (σ := Option (Option Addr × Nat)) (fun s => match s with | none => [(3, .pointer (some ⟨b, 0, none⟩)), (4, .pointer (some ⟨fb, 0, none⟩))] | some _ => [(3, .pointer (some ⟨b, 0, none⟩)), (4, .pointer none)])
    (fun s => match s with | none => [ptT 127 b [.pointer none, .slice none 0 0]] | some (a, cap) => bldH b a cap (dig c ++ [64] ++ dig x)) (fun _ => True) (fun s => match s with | none => 1 | some _ => 0) none trivial ⟨rfl, rfl, trivial⟩ (Ent.refl _) ?_
  rintro s -
  match s with
  | none =>
    show G C _ [(3, .pointer (some ⟨b, 0, none⟩)), (4, .pointer (some ⟨fb, 0, none⟩))] [ptT 127 b [.pointer none, .slice none 0 0]]
    repeat (first | refine xst ?_ | refine xar ?_ | refine xop ?_ | refine xlen ?_ | refine xld rfl ?_ | refine xsto rfl ?_ | refine xno ?_ | refine xt ?_ | refine xf ?_)
    refine xcall (bld_len b (.pointer none) none 0 0) ?_
    rintro v H ⟨rfl, rfl⟩
    refine G.app ?_
    repeat (first | refine xst ?_ | refine xar ?_ | refine xop ?_ | refine xlen ?_ | refine xld rfl ?_ | refine xsto rfl ?_ | refine xno ?_ | refine xt ?_ | refine xf ?_)
    refine xcall (itoa_spec c hc) ?_
    rintro v H ⟨rfl, rfl⟩
    refine G.app ?_
    repeat (first | refine xst ?_ | refine xar ?_ | refine xop ?_ | refine xlen ?_ | refine xld rfl ?_ | refine xsto rfl ?_ | refine xno ?_ | refine xt ?_ | refine xf ?_)
    refine xcall (wstrF b (dig c) (by omega)) ?_
    rintro v H ⟨n1, a1, c1, rfl, rfl⟩
    refine G.app ?_
    repeat (first | refine xst ?_ | refine xar ?_ | refine xop ?_ | refine xlen ?_ | refine xld rfl ?_ | refine xsto rfl ?_ | refine xno ?_ | refine xt ?_ | refine xf ?_)
    refine xcall (wbyte b a1 c1 (dig c) 64 (by omega)) ?_
    rintro v H ⟨a2, c2, rfl, rfl⟩
    refine G.app ?_
    repeat (first | refine xst ?_ | refine xar ?_ | refine xop ?_ | refine xlen ?_ | refine xld rfl ?_ | refine xsto rfl ?_ | refine xno ?_ | refine xt ?_ | refine xf ?_)
    refine xcall (itoa_spec x hx) ?_
    rintro v H ⟨rfl, rfl⟩
    refine G.app ?_
    repeat (first | refine xst ?_ | refine xar ?_ | refine xop ?_ | refine xlen ?_ | refine xld rfl ?_ | refine xsto rfl ?_ | refine xno ?_ | refine xt ?_ | refine xf ?_)
    refine xcall (wstrU b a2 c2 (dig c ++ [64]) (dig x) (by simp only [List.length_append, List.length_singleton]; omega)) ?_
    rintro v H ⟨n3, a3, c3, rfl, rfl⟩
    refine G.app ?_
    repeat (first | refine xst ?_ | refine xar ?_ | refine xop ?_ | refine xlen ?_ | refine xld rfl ?_ | refine xsto rfl ?_ | refine xno ?_ | refine xt ?_ | refine xf ?_)
    refine xcall (outer_spec [] .nilIface) ?_
    rintro v H ⟨rfl, hv⟩
    simp only at hv
    subst hv
    refine G.app ?_
    repeat (first | refine xst ?_ | refine xar ?_ | refine xop ?_ | refine xlen ?_ | refine xld rfl ?_ | refine xsto rfl ?_ | refine xno ?_ | refine xt ?_ | refine xf ?_)
    exact G.fin (some (a3, c3)) ⟨trivial, Nat.zero_lt_one⟩ ⟨rfl, rfl, trivial⟩ (Ent.refl _)
  | some (a, cap) =>
    show G C _ [(3, .pointer (some ⟨b, 0, none⟩)), (4, .pointer none)] (bldH b a cap (dig c ++ [64] ++ dig x))
    repeat (first | refine xst ?_ | refine xar ?_ | refine xop ?_ | refine xlen ?_ | refine xld rfl ?_ | refine xsto rfl ?_ | refine xno ?_ | refine xt ?_ | refine xf ?_)
    refine xcall (bstr b a cap (dig c ++ [64] ++ dig x) (by simp only [List.length_append, List.length_singleton]; omega) (by simp only [List.length_append, List.length_singleton]; omega)) ?_
    rintro v H ⟨rfl, rfl⟩
    refine G.app ?_
    repeat (first | refine xst ?_ | refine xar ?_ | refine xop ?_ | refine xlen ?_ | refine xld rfl ?_ | refine xsto rfl ?_ | refine xno ?_ | refine xt ?_ | refine xf ?_)
    exact xret [] ⟨rfl, rfl⟩
end Go.Proofs.YthlaacnjgdmakaaDoor
