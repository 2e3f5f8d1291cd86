/- Part of the proof: LDe, LKg, LKh, LKi, LKj -/
import Derived.Test.YtdalmiacjicgpaaGreatDoorK8
import Derived.Test.YtdalmiacjicgpaaGreatDoorK7
/- image.Decode. -/
namespace Go.Proofs.YtdalmiacjicgpaaGreatDoor
open Go.W

theorem numB_small {bs : List UInt8} {at_ : Nat} {code : Int} {n : Nat} (_h : n ≤ 8) : numB (rdX bs at_ code n) < 256 ^ n :=
  Nat.lt_of_lt_of_le (numB_lt _) (Nat.pow_le_pow_right (by omega) rdX_len)
theorem rd_ok {bs : List UInt8} {at_ : Nat} {code : Int} {n : Nat} (h : (rdR bs at_ code n).2 = 0) :
    code = 0 ∧ at_ + n ≤ bs.length ∧ rdR bs at_ code n = (at_ + n, 0) ∧ rdX bs at_ code n = (bs.drop at_).take n := by
  unfold rdR at h
  by_cases hc : code = 0 ∧ at_ + n ≤ bs.length
  · exact ⟨hc.1, hc.2, by unfold rdR; rw [if_pos hc], by unfold rdX; rw [if_pos hc]⟩
  · rw [if_neg hc] at h
    by_cases h0 : code = 0
    · simp [h0] at h
    · simp [h0] at h
theorem rd_go {bs : List UInt8} {at_ n : Nat} (h : at_ + n ≤ bs.length) : rdR bs at_ 0 n = (at_ + n, 0) ∧ rdX bs at_ 0 n = (bs.drop at_).take n :=
  ⟨by unfold rdR; rw [if_pos ⟨rfl, h⟩], by unfold rdX; rw [if_pos ⟨rfl, h⟩]⟩
theorem dec_good {bs : List UInt8} {r1 r2 r3 r4 r5 : Nat × Int} {c1 : Int} (hr1 : rdR bs 0 0 1 = r1) (hc1 : (if r1.2 = 0 ∧ decide ((numB (rdX bs 0 0 1) : Int) = 77) = false then 3 else r1.2) = c1)
    (hr2 : rdR bs r1.1 c1 1 = r2) (hr3 : rdR bs r2.1 r2.2 4 = r3) (hr4 : rdR bs r3.1 r3.2 2 = r4) (hr5 : rdR bs r4.1 r4.2 32 = r5) (he : endF bs.length (r5.1, r5.2) = []) :
    bs.length = 40 ∧ numB (bs.take 1) = 77 ∧ rdX bs r1.1 c1 1 = (bs.drop 1).take 1 ∧ rdX bs r2.1 r2.2 4 = (bs.drop 2).take 4 ∧ rdX bs r3.1 r3.2 2 = (bs.drop 6).take 2 ∧ rdX bs r4.1 r4.2 32 = (bs.drop 8).take 32 := by
  have h5 : r5.2 = 0 ∧ ¬ r5.1 < bs.length := by
    unfold endF at he
    by_cases h : r5.2 = 0
    · by_cases h' : r5.1 < bs.length
      · simp [h, h'] at he
      · exact ⟨h, h'⟩
    · simp [h] at he
  rw [← hr5] at h5
  obtain ⟨a5, b5, e5, x5⟩ := rd_ok h5.1
  rw [← hr4] at a5
  obtain ⟨a4, b4, e4, x4⟩ := rd_ok a5
  rw [← hr3] at a4
  obtain ⟨a3, b3, e3, x3⟩ := rd_ok a4
  rw [← hr2] at a3
  obtain ⟨a2, b2, e2, x2⟩ := rd_ok a3
  have h1 : r1.2 = 0 := by
    rw [← hc1] at a2
    split at a2
    · omega
    · exact a2
  have h1' := h1
  rw [← hr1] at h1'
  obtain ⟨_, b1, e1, x1⟩ := rd_ok h1'
  have q1 : r1 = (0 + 1, 0) := by rw [← hr1, e1]
  have q2 : r2 = (r1.1 + 1, 0) := by rw [← hr2, e2]
  have q3 : r3 = (r2.1 + 4, 0) := by rw [← hr3, e3]
  have q4 : r4 = (r3.1 + 2, 0) := by rw [← hr4, e4]
  rw [e5] at h5
  have k1 : r1.1 = 1 := by rw [q1]
  have k2 : r2.1 = 2 := by rw [q2, k1]
  have k3 : r3.1 = 6 := by rw [q3, k2]
  have k4 : r4.1 = 8 := by rw [q4, k3]
  have h77 : numB (rdX bs 0 0 1) = 77 := by
    by_cases h : (numB (rdX bs 0 0 1) : Int) = 77
    · omega
    · rw [if_pos ⟨h1, by simp [h]⟩] at hc1; omega
  refine ⟨?_, by rw [x1] at h77; simpa using h77, by rw [x2, k1], by rw [x3, k2], by rw [x4, k3], by rw [x5, k4]⟩
  have := h5.2
  simp only at this
  omega
/-- What Decode answers: the manifest whose encoding the bytes are, or a fault. -/
def decR (bs : List UInt8) (m : Man) (l : List (Int × Int)) : Prop :=
  (l = [] ∧ m.ok = true ∧ encM m = bs) ∨ (l ≠ [] ∧ m = man0 ∧ ∀ m' : Man, m'.sum.length = 32 → m'.ok = true → encM m' ≠ bs)
theorem decodeM_spec (a : Option Addr) (n cap : Nat) (bs : List UInt8) (hn : n = bs.length) (hl : n ≤ 140737488355328) : Fun Tryz.prog 126 [.slice a n cap] [gErr, slR 1 a n cap (bsV bs)] []
    fun v H => ∃ m l e, m.sum.length = 32 ∧ v = .tuple #[.agg ⟨Man.v m⟩, e] ∧ oneC e = true ∧ H = [chain l e] ∧ decR bs m l := by
  subst hn
  refine xenter (p := pg) Tryz.call126 Tryz.func126 fun C => ?_
  haveI : RP C gErr := RP.of C (by simp)
  haveI hr := RP.slR (RP.of C (X := slR 1 a bs.length cap (bsV bs)) (by simp))
  repeat (first | refine xst ?_ | refine xar ?_ | refine xop ?_ | refine xlen ?_ | refine xld rfl ?_ | refine xsto rfl ?_ | refine xno ?_ | refine xt ?_ | refine xf ?_)
  refine xnew fun b => ?_
  refine xrep 0 man0.v rfl rfl ?_
  repeat (first | refine xst ?_ | refine xar ?_ | refine xop ?_ | refine xlen ?_ | refine xld rfl ?_ | refine xsto rfl ?_ | refine xno ?_ | refine xt ?_ | refine xf ?_)
  refine xcall (read_spec a bs.length cap bs rfl (by omega)) ?_
  rintro v H ⟨q, a', cap', rfl, hcap, rfl⟩
  refine G.app ?_
  repeat (first | refine xst ?_ | refine xar ?_ | refine xop ?_ | refine xlen ?_ | refine xld rfl ?_ | refine xsto rfl ?_ | refine xno ?_ | refine xt ?_ | refine xf ?_)
  refine xcall (num_spec q a' cap' 0 bs 0 1 (by omega) (by omega) (Nat.zero_le _) (by omega) hcap) ?_
  rintro v H ⟨rfl, rfl⟩
  refine G.app ?_
  repeat (first | refine xst ?_ | refine xar ?_ | refine xop ?_ | refine xlen ?_ | refine xld rfl ?_ | refine xsto rfl ?_ | refine xno ?_ | refine xt ?_ | refine xf ?_)
  obtain ⟨x1, hx1⟩ : ∃ x, rdX bs 0 0 1 = x := ⟨_, rfl⟩
  obtain ⟨r1, hr1⟩ : ∃ x, rdR bs 0 0 1 = x := ⟨_, rfl⟩
  have hl1 : r1.1 ≤ bs.length := by rw [← hr1]; exact rdR_le (Nat.zero_le _)
  refine xrep 0 [.slice a' bs.length cap', .int .i64 (r1.1 : Int), .int .i64 r1.2] rfl (by rw [hr1]; rfl) ?_
  refine xcall (must_spec q (.slice a' bs.length cap') r1.1 r1.2 3 (decide ((numB (rdX bs 0 0 1) : Int) = 77)) (by omega)) ?_
  rintro v H rfl
  refine G.app ?_
  obtain ⟨c1, hc1⟩ : ∃ c, (if r1.2 = 0 ∧ decide ((numB (rdX bs 0 0 1) : Int) = 77) = false then 3 else r1.2) = c := ⟨_, rfl⟩
  refine xrep 0 [.slice a' bs.length cap', .int .i64 (r1.1 : Int), .int .i64 c1] rfl (by rw [hc1]) ?_
  repeat (first | refine xst ?_ | refine xar ?_ | refine xop ?_ | refine xlen ?_ | refine xld rfl ?_ | refine xsto rfl ?_ | refine xno ?_ | refine xt ?_ | refine xf ?_)
  refine xnew fun b2 => ?_
  refine xrep 0 man0.v rfl rfl ?_
  repeat (first | refine xst ?_ | refine xar ?_ | refine xop ?_ | refine xlen ?_ | refine xld rfl ?_ | refine xsto rfl ?_ | refine xno ?_ | refine xt ?_ | refine xf ?_)
  refine xcall (num_spec q a' cap' r1.1 bs c1 1 (by omega) (by omega) hl1 (by omega) hcap) ?_
  rintro v H ⟨rfl, rfl⟩
  refine G.app ?_
  obtain ⟨p, hp⟩ : ∃ x, numB (rdX bs r1.1 c1 1) = x := ⟨_, rfl⟩
  obtain ⟨r2, hr2⟩ : ∃ x, rdR bs r1.1 c1 1 = x := ⟨_, rfl⟩
  have hl2 : r2.1 ≤ bs.length := by rw [← hr2]; exact rdR_le hl1
  have hp1 : p < 256 := by rw [← hp]; exact numB_small (n := 1) (by omega)
  refine xrep 0 [.slice a' bs.length cap', .int .i64 (r2.1 : Int), .int .i64 r2.2] rfl (by rw [hr2]; rfl) ?_
  repeat (refine xnot 16 ?_; first | refine xst ?_ | refine xar ?_ | refine xop ?_ | refine xlen ?_ | refine xld rfl ?_ | refine xsto rfl ?_ | refine xno ?_ | refine xt ?_ | refine xf ?_)
  refine xE 16 (.int .i64 (p : Int)) rfl (congrArg (Value.int .i64) (by rw [hp])) ?_
  repeat (first | refine xst ?_ | refine xar ?_ | refine xop ?_ | refine xlen ?_ | refine xld rfl ?_ | refine xsto rfl ?_ | refine xno ?_ | refine xt ?_ | refine xf ?_)
  refine xcall (num_spec q a' cap' r2.1 bs r2.2 4 (by omega) (by omega) hl2 (by omega) hcap) ?_
  rintro v H ⟨rfl, rfl⟩
  refine G.app ?_
  obtain ⟨ver, hver⟩ : ∃ x, numB (rdX bs r2.1 r2.2 4) = x := ⟨_, rfl⟩
  obtain ⟨r3, hr3⟩ : ∃ x, rdR bs r2.1 r2.2 4 = x := ⟨_, rfl⟩
  have hl3 : r3.1 ≤ bs.length := by rw [← hr3]; exact rdR_le hl2
  refine xrep 0 [.slice a' bs.length cap', .int .i64 (r3.1 : Int), .int .i64 r3.2] rfl (by rw [hr3]; rfl) ?_
  repeat (refine xnot 20 ?_; first | refine xst ?_ | refine xar ?_ | refine xop ?_ | refine xlen ?_ | refine xld rfl ?_ | refine xsto rfl ?_ | refine xno ?_ | refine xt ?_ | refine xf ?_)
  refine xE 20 (wV (UInt32.ofNat ver)) rfl (wE (by rw [hver]; exact w_wrap _)) ?_
  repeat (first | refine xst ?_ | refine xar ?_ | refine xop ?_ | refine xlen ?_ | refine xld rfl ?_ | refine xsto rfl ?_ | refine xno ?_ | refine xt ?_ | refine xf ?_)
  refine xcall (num_spec q a' cap' r3.1 bs r3.2 2 (by omega) (by omega) hl3 (by omega) hcap) ?_
  rintro v H ⟨rfl, rfl⟩
  refine G.app ?_
  obtain ⟨sz, hsz⟩ : ∃ x, numB (rdX bs r3.1 r3.2 2) = x := ⟨_, rfl⟩
  obtain ⟨r4, hr4⟩ : ∃ x, rdR bs r3.1 r3.2 2 = x := ⟨_, rfl⟩
  have hl4 : r4.1 ≤ bs.length := by rw [← hr4]; exact rdR_le hl3
  have hsz1 : sz < 65536 := by rw [← hsz]; exact numB_small (n := 2) (by omega)
  refine xrep 0 [.slice a' bs.length cap', .int .i64 (r4.1 : Int), .int .i64 r4.2] rfl (by rw [hr4]; rfl) ?_
  repeat (refine xnot 24 ?_; first | refine xst ?_ | refine xar ?_ | refine xop ?_ | refine xlen ?_ | refine xld rfl ?_ | refine xsto rfl ?_ | refine xno ?_ | refine xt ?_ | refine xf ?_)
  refine xE 24 (.int .i64 (sz : Int)) rfl (congrArg (Value.int .i64) (by rw [hsz])) ?_
  repeat (first | refine xst ?_ | refine xar ?_ | refine xop ?_ | refine xlen ?_ | refine xld rfl ?_ | refine xsto rfl ?_ | refine xno ?_ | refine xt ?_ | refine xf ?_)
  refine xdraw ?_
  refine xdop 0 ?_
  refine xdslice 1 0 32 rfl rfl rfl rfl (by omega) (by omega) ?_
  refine xE 27 (.slice (some ⟨b2, 3, none⟩) 32 32) rfl (congrArg (fun z => Value.slice z 32 32) ((subA_lt (by omega)).trans rfl)) ?_
  refine xdop 2 ?_
  refine xdact 3 ?_
  refine xcall (bytes_spec q a' cap' r4.1 bs r4.2 32 (by omega) hl4 (by omega) hcap) ?_
  rintro v H ⟨a3, c3, rfl, rfl⟩
  refine G.app ?_
  obtain ⟨sm, hsm⟩ : ∃ x, rdX bs r4.1 r4.2 32 = x := ⟨_, rfl⟩
  obtain ⟨r5, hr5⟩ : ∃ x, rdR bs r4.1 r4.2 32 = x := ⟨_, rfl⟩
  have hl5 : r5.1 ≤ bs.length := by rw [← hr5]; exact rdR_le hl4
  have hsml : sm.length ≤ 32 := by rw [← hsm]; exact rdX_len
  refine xE 29 (.slice a3 sm.length c3) rfl (by rw [hsm]) ?_
  refine xreH 0 (sl 1 a3 sm.length c3 (bsV sm)) rfl (by rw [hsm]) ?_
  refine xrep 1 [.slice a' bs.length cap', .int .i64 (r5.1 : Int), .int .i64 r5.2] rfl (by rw [hr5]; rfl) ?_
  refine xst ?_
  refine xdact 4 ?_
  obtain ⟨m, hm⟩ : ∃ m : Man, m = ⟨p, UInt32.ofNat ver, sz, sm ++ List.replicate (32 - sm.length) 0⟩ := ⟨_, rfl⟩
  have hms : m.sum.length = 32 := by rw [hm]; simp; omega
  have hcp : (Value.int .i64 (p : Int) :: wV (UInt32.ofNat ver) :: Value.int .i64 (sz : Int) :: bsV man0.sum).take 3 ++ (bsV sm).take (sm.length * 1) ++ (Value.int .i64 (p : Int) :: wV (UInt32.ofNat ver) :: Value.int .i64 (sz : Int) :: bsV man0.sum).drop (3 + sm.length * 1) = m.v := by
    rw [hm, Nat.mul_one, List.take_of_length_le (l := bsV sm) (by rw [bsV_length]; exact Nat.le_refl _)]
    have e1 : (Value.int .i64 (p : Int) :: wV (UInt32.ofNat ver) :: Value.int .i64 (sz : Int) :: bsV man0.sum).drop (3 + sm.length) = bsV (List.replicate (32 - sm.length) 0) := by
      rw [Nat.add_comm]
      show (bsV man0.sum).drop sm.length = _
      rw [bsV_drop, show man0.sum = List.replicate 32 0 from rfl, List.drop_replicate]
    rw [e1]
    unfold Man.v
    rw [bsV_append]; rfl
  refine xcopy rfl (SrcOk.sl (ys := bsV sm) (by rw [bsV_length, Nat.mul_one]) (bsV_one _)) sm.length (Nat.min_eq_left hsml) m.v hcp (by show 3 + sm.length * 1 ≤ 35; omega) ?_
  refine xst ?_
  refine xdend ?_
  repeat (first | refine xst ?_ | refine xar ?_ | refine xop ?_ | refine xlen ?_ | refine xld rfl ?_ | refine xsto rfl ?_ | refine xno ?_ | refine xt ?_ | refine xf ?_)
  refine xcall (end_spec q a' bs.length cap' r5.1 r5.2 hl5 (by omega)) ?_
  rintro e H rfl
  refine G.app ?_
  obtain ⟨ch, hch⟩ : ∃ x, endF bs.length (r5.1, r5.2) = x := ⟨_, rfl⟩
  refine xreH 0 (chain ch e) rfl (by rw [hch]) ?_
  have hml := Man.v_len hms
  cases ch with
  | nil =>
    refine G.fact (chain [] e) (P := e = .nilIface) (fun w F h => h) fun h => ?_
    subst h
    repeat (first | refine xst ?_ | refine xar ?_ | refine xop ?_ | refine xlen ?_ | refine xld rfl ?_ | refine xsto rfl ?_ | refine xno ?_ | refine xt ?_ | refine xf ?_)
    refine xld rfl ?_ (hv := partF_all rfl hml)
    refine xcall (valid_spec m hms) ?_
    rintro v2 H ⟨rfl, rfl⟩
    refine G.app ?_
    repeat (first | refine xst ?_ | refine xar ?_ | refine xop ?_ | refine xlen ?_ | refine xld rfl ?_ | refine xsto rfl ?_ | refine xno ?_ | refine xt ?_ | refine xf ?_)
    refine xb (fun h1 => ?_) (fun h1 => ?_)
    · have h1 : m.ok = false := by simpa using h1
      repeat (first | refine xst ?_ | refine xar ?_ | refine xop ?_ | refine xlen ?_ | refine xld rfl ?_ | refine xsto rfl ?_ | refine xno ?_ | refine xt ?_ | refine xf ?_)
      refine xcall (new_spec 1 40) ?_
      rintro e H rfl
      refine G.app ?_
      refine G.fact (chain (newF 1 40) e) (P := oneC e = true) (fun w F h => chain_one h) fun he => ?_
      repeat (first | refine xst ?_ | refine xar ?_ | refine xop ?_ | refine xlen ?_ | refine xld rfl ?_ | refine xsto rfl ?_ | refine xno ?_ | refine xt ?_ | refine xf ?_)
      refine xrep 6 man0.v rfl rfl ?_
      refine xretm [1] rfl (.c (.t .nil) rfl rfl (partF_all rfl rfl)) ?_
      refine ⟨man0, newF 1 40, e, rfl, rfl, he, rfl, .inr ⟨by decide, rfl, ?_⟩⟩
      intro m' hs' hok' henc
      obtain ⟨h40, h77, y2, y3, y4, y5⟩ := dec_good hr1 hc1 hr2 hr3 hr4 hr5 hch
      have hq := enc_parts hs' hok'
      rw [henc] at hq
      have e1 : m.part = m'.part := by rw [hm, ← hq.2.1, ← y2, hp]
      have e2 : m.size = m'.size := by rw [hm, ← hq.2.2.2.1, ← y4, hsz]
      have : m.ok = m'.ok := by unfold Man.ok; rw [e1, e2]
      rw [this, hok'] at h1; cases h1
    · have h1 : m.ok = true := by simpa using h1
      repeat (first | refine xst ?_ | refine xar ?_ | refine xop ?_ | refine xlen ?_ | refine xld rfl ?_ | refine xsto rfl ?_ | refine xno ?_ | refine xt ?_ | refine xf ?_)
      refine xld rfl ?_ (hv := partF_all rfl hml)
      refine xsta (cs := m.v) rfl hml m.v_one m.v (put_all (by rw [hml]; rfl)) (by rw [hml]; exact Nat.le_of_ble_eq_true rfl) ?_
      repeat (first | refine xst ?_ | refine xar ?_ | refine xop ?_ | refine xlen ?_ | refine xld rfl ?_ | refine xsto rfl ?_ | refine xno ?_ | refine xt ?_ | refine xf ?_)
      refine xretm [0] rfl (.c (.t .nil) rfl rfl (partF_all rfl hml)) ?_
      refine ⟨m, [], .nilIface, hms, rfl, rfl, rfl, .inl ⟨rfl, h1, ?_⟩⟩
      obtain ⟨h40, h77, y2, y3, y4, y5⟩ := dec_good hr1 hc1 hr2 hr3 hr4 hr5 hch
      have hsm32 : sm.length = 32 := by rw [← hsm, y5, List.length_take, List.length_drop]; omega
      refine enc_of_parts h40 h77 (by rw [hm, ← y2, hp]) (by rw [hm, ← y3, hver]) (by rw [hm, ← y4, hsz]) ?_ h1
      rw [hm]
      show sm ++ List.replicate (32 - sm.length) 0 = _
      rw [hsm32, ← y5, hsm]; simp
  | cons qq rr =>
    obtain ⟨c, x⟩ := qq
    refine G.fact (chain ((c, x) :: rr) e) (P := ∃ b : Nat, e = .iface 179 (.pointer (some ⟨b, 0, none⟩))) (fun w F h => by obtain ⟨b, u, F1, F2, ⟨h1, h2⟩, _⟩ := h; exact ⟨b, h1⟩) fun h => ?_
    obtain ⟨b3, rfl⟩ := h
    repeat (first | refine xst ?_ | refine xar ?_ | refine xop ?_ | refine xlen ?_ | refine xld rfl ?_ | refine xsto rfl ?_ | refine xno ?_ | refine xt ?_ | refine xf ?_)
    refine xcall (in_spec ((c, x) :: rr) (.iface 179 (.pointer (some ⟨b3, 0, none⟩))) 0 rfl) ?_
    rintro e H rfl
    refine G.app ?_
    refine G.fact (chain (inF ((c, x) :: rr) 0) e) (P := oneC e = true) (fun w F h => chain_one h) fun he => ?_
    repeat (first | refine xst ?_ | refine xar ?_ | refine xop ?_ | refine xlen ?_ | refine xld rfl ?_ | refine xsto rfl ?_ | refine xno ?_ | refine xt ?_ | refine xf ?_)
    refine xrep 5 man0.v rfl rfl ?_
    refine xretm [1] rfl (.c (.t .nil) rfl rfl (partF_all rfl rfl)) ?_
    refine ⟨man0, inF ((c, x) :: rr) 0, e, rfl, rfl, he, rfl, .inr ⟨by simp [inF], rfl, ?_⟩⟩
    intro m' hs' hok' henc
    have h40 := enc_len hs' hok'
    have hq := (enc_parts hs' hok').1
    rw [henc] at h40 hq
    have g1 := rd_go (bs := bs) (at_ := 0) (n := 1) (by omega)
    have q1 : r1 = (0 + 1, 0) := by rw [← hr1, g1.1]
    have k1 : c1 = 0 := by
      rw [← hc1, q1, if_neg (by rintro ⟨_, h⟩; rw [g1.2] at h; simp [hq] at h)]
    have q2 : r2 = (0 + 1 + 1, 0) := by rw [← hr2, q1, k1]; exact (rd_go (by omega)).1
    have q3 : r3 = (0 + 1 + 1 + 4, 0) := by rw [← hr3, q2]; exact (rd_go (by omega)).1
    have q4 : r4 = (0 + 1 + 1 + 4 + 2, 0) := by rw [← hr4, q3]; exact (rd_go (by omega)).1
    have q5 : r5 = (0 + 1 + 1 + 4 + 2 + 32, 0) := by rw [← hr5, q4]; exact (rd_go (by omega)).1
    rw [q5, h40] at hch
    simp [endF] at hch
end Go.Proofs.YtdalmiacjicgpaaGreatDoor

/- audit: the log. -/
namespace Go.Proofs.YtdalmiacjicgpaaGreatDoor
open Go.W

def entF (n : Nat) (b : List UInt8) : Option Ntr := match openF b with
  | some c => if (ntrOf c).valid = true ∧ (ntrOf c).sec n = b then some (ntrOf c) else none
  | none => none
def entV : Option Ntr → Value
  | some x => .tuple #[.agg x.v.toArray, .bool true]
  | none => .tuple #[.agg Ntr.zero.v.toArray, .bool false]
theorem entF_some {n : Nat} {b : List UInt8} {x : Ntr} : entF n b = some x ↔ x.valid = true ∧ x.sec n = b := by
  unfold entF
  constructor
  · intro h
    split at h
    · split at h
      · rename_i h1; simp only [Option.some.injEq] at h; subst h; exact h1
      · cases h
    · cases h
  · rintro ⟨h1, h2⟩
    have := open_seal (pad60 (x.raw n))
    rw [show sealF (pad60 (x.raw n)) = b from h2] at this
    rw [this]
    simp only
    rw [ntrOf_raw n x h1, if_pos ⟨h1, h2⟩]
theorem entry_spec (n : Nat) (hn : n < 1000000) (a : Option Addr) (m cap : Nat) (b : List UInt8) (hm : m = b.length) (h64 : b.length = 64) (hc : m ≤ cap) : Fun Tryz.prog 78 [.int .i64 (n : Int), .slice a m cap] [gNib, slR 1 a m cap (bsV b)] [] fun v H => v = entV (entF n b) ∧ H = [] := by
  refine xenter (p := pg) Tryz.call78 Tryz.func78 fun C => ?_
  haveI : RP C gNib := RP.of C (by simp)
  haveI hb := RP.slR (RP.of C (X := slR 1 a m cap (bsV b)) (by simp))
  refine xst ?_
  refine xst ?_
  refine xnew fun rb => ?_
  refine xrep 0 Ntr.zero.v rfl rfl ?_
  repeat (first | refine xst ?_ | refine xar ?_ | refine xop ?_ | refine xlen ?_ | refine xld rfl ?_ | refine xsto rfl ?_ | refine xno ?_ | refine xt ?_ | refine xf ?_ | refine xnu ?_)
  refine xcall (open_spec a m cap b hm (by omega) hc) ?_
  rintro v H h
  cases ho : openF b with
  | none =>
    have he : entF n b = none := by unfold entF; rw [ho]
    rw [ho] at h
    obtain ⟨e, hne, rfl, rfl⟩ := h
    refine G.app ?_
    repeat (first | refine xst ?_ | refine xar ?_ | refine xop ?_ | refine xlen ?_ | refine xld rfl ?_ | refine xsto rfl ?_ | refine xno ?_ | refine xt ?_ | refine xf ?_ | refine xnu ?_)
    refine xd (q := e ≠ 0) (fun h => ?_) (fun h => absurd hne h)
    repeat (first | refine xst ?_ | refine xar ?_ | refine xop ?_ | refine xlen ?_ | refine xld rfl ?_ | refine xsto rfl ?_ | refine xno ?_ | refine xt ?_ | refine xf ?_ | refine xnu ?_)
    refine xretm [] rfl (.c (.t .nil) rfl rfl (partF_all rfl rfl)) ⟨?_, rfl⟩
    rw [he]; rfl
  | some c =>
    rw [ho] at h
    obtain ⟨a1, c1, rfl, rfl⟩ := h
    have hbc := openF_some ho
    have hcl : c.length = 60 := by have := congrArg List.length hbc; rw [sealF_len] at this; omega
    refine G.app ?_
    repeat (first | refine xst ?_ | refine xar ?_ | refine xop ?_ | refine xlen ?_ | refine xld rfl ?_ | refine xsto rfl ?_ | refine xno ?_ | refine xt ?_ | refine xf ?_ | refine xnu ?_)
    refine xcall (read_spec a1 c.length c1 c rfl (by omega)) ?_
    rintro v H ⟨q, a2, c2, rfl, hcap, rfl⟩
    refine G.app ?_
    have rn : ∀ (at_ k : Nat), at_ + k ≤ 60 → rdV a2 c.length c2 (rdR c at_ 0 k) = [.slice a2 c.length c2, .int .i64 ((at_ + k : Nat) : Int), .int .i64 0] ∧ rdX c at_ 0 k = (c.drop at_).take k := fun at_ k h => by
      obtain ⟨h1, h2⟩ := rd_go (bs := c) (at_ := at_) (n := k) (by omega)
      rw [h1, h2]; exact ⟨rfl, rfl⟩
    repeat (first | refine xst ?_ | refine xar ?_ | refine xop ?_ | refine xlen ?_ | refine xld rfl ?_ | refine xsto rfl ?_ | refine xno ?_ | refine xt ?_ | refine xf ?_ | refine xnu ?_)
    refine xcall (num_spec q a2 c2 0 c 0 1 (by omega) (by omega) (by omega) (by omega) hcap) ?_
    rintro v H ⟨rfl, rfl⟩
    refine G.app ?_
    refine xrep 0 [.slice a2 c.length c2, .int .i64 ((1 : Nat) : Int), .int .i64 0] rfl (rn 0 1 (by omega)).1 ?_
    repeat (first | refine xst ?_ | refine xar ?_ | refine xop ?_ | refine xlen ?_ | refine xld rfl ?_ | refine xsto rfl ?_ | refine xno ?_ | refine xt ?_ | refine xf ?_ | refine xnu ?_)
    refine xcall (num_spec q a2 c2 1 c 0 4 (by omega) (by omega) (by omega) (by omega) hcap) ?_
    rintro v H ⟨rfl, rfl⟩
    refine G.app ?_
    refine xrep 0 [.slice a2 c.length c2, .int .i64 ((5 : Nat) : Int), .int .i64 0] rfl (rn 1 4 (by omega)).1 ?_
    repeat (first | refine xst ?_ | refine xar ?_ | refine xop ?_ | refine xlen ?_ | refine xld rfl ?_ | refine xsto rfl ?_ | refine xno ?_ | refine xt ?_ | refine xf ?_ | refine xnu ?_)
    refine xnew fun xb => ?_
    refine xrep 0 [.int .i64 0, .int .i64 0, .int .u32 0, .int .i64 0] rfl rfl ?_
    repeat (first | refine xst ?_ | refine xar ?_ | refine xop ?_ | refine xlen ?_ | refine xld rfl ?_ | refine xsto rfl ?_ | refine xno ?_ | refine xt ?_ | refine xf ?_ | refine xnu ?_)
    refine xcall (num_spec q a2 c2 5 c 0 1 (by omega) (by omega) (by omega) (by omega) hcap) ?_
    rintro v H ⟨rfl, rfl⟩
    refine G.app ?_
    refine xrep 0 [.slice a2 c.length c2, .int .i64 ((6 : Nat) : Int), .int .i64 0] rfl (rn 5 1 (by omega)).1 ?_
    obtain ⟨x, hx⟩ : ∃ x, x = ntrOf c := ⟨_, rfl⟩
    have hx0 : x.kind = (numB ((c.drop 5).take 1) : Int) := by rw [hx]; rfl
    have hx1 : x.part = (numB ((c.drop 6).take 1) : Int) := by rw [hx]; rfl
    have hx2 : x.ver = UInt32.ofNat (numB ((c.drop 7).take 4)) := by rw [hx]; rfl
    have hx3 : x.code = (numB ((c.drop 11).take 1) : Int) := by rw [hx]; rfl
    have lt1 : ∀ k, numB ((c.drop k).take 1) < 256 := fun k => Nat.lt_of_lt_of_le (numB_lt _) (Nat.pow_le_pow_right (by omega) (by rw [List.length_take]; omega) : 256 ^ _ ≤ 256 ^ 1)
    repeat (refine xnot 26 ?_; first | refine xst ?_ | refine xar ?_ | refine xop ?_ | refine xlen ?_ | refine xld rfl ?_ | refine xsto rfl ?_ | refine xno ?_ | refine xt ?_ | refine xf ?_ | refine xnu ?_)
    refine xE 26 (.int .i64 x.kind) rfl (congrArg (Value.int .i64) (by rw [(rn 5 1 (by omega)).2, hx0]; exact wrap_nat (by have := lt1 5; omega))) ?_
    repeat (first | refine xst ?_ | refine xar ?_ | refine xop ?_ | refine xlen ?_ | refine xld rfl ?_ | refine xsto rfl ?_ | refine xno ?_ | refine xt ?_ | refine xf ?_ | refine xnu ?_)
    refine xcall (num_spec q a2 c2 6 c 0 1 (by omega) (by omega) (by omega) (by omega) hcap) ?_
    rintro v H ⟨rfl, rfl⟩
    refine G.app ?_
    refine xrep 0 [.slice a2 c.length c2, .int .i64 ((7 : Nat) : Int), .int .i64 0] rfl (rn 6 1 (by omega)).1 ?_
    repeat (refine xnot 30 ?_; first | refine xst ?_ | refine xar ?_ | refine xop ?_ | refine xlen ?_ | refine xld rfl ?_ | refine xsto rfl ?_ | refine xno ?_ | refine xt ?_ | refine xf ?_ | refine xnu ?_)
    refine xE 30 (.int .i64 x.part) rfl (congrArg (Value.int .i64) (by rw [(rn 6 1 (by omega)).2, hx1]; exact wrap_nat (by have := lt1 6; omega))) ?_
    repeat (first | refine xst ?_ | refine xar ?_ | refine xop ?_ | refine xlen ?_ | refine xld rfl ?_ | refine xsto rfl ?_ | refine xno ?_ | refine xt ?_ | refine xf ?_ | refine xnu ?_)
    refine xcall (num_spec q a2 c2 7 c 0 4 (by omega) (by omega) (by omega) (by omega) hcap) ?_
    rintro v H ⟨rfl, rfl⟩
    refine G.app ?_
    refine xrep 0 [.slice a2 c.length c2, .int .i64 ((11 : Nat) : Int), .int .i64 0] rfl (rn 7 4 (by omega)).1 ?_
    repeat (refine xnot 34 ?_; first | refine xst ?_ | refine xar ?_ | refine xop ?_ | refine xlen ?_ | refine xld rfl ?_ | refine xsto rfl ?_ | refine xno ?_ | refine xt ?_ | refine xf ?_ | refine xnu ?_)
    refine xE 34 (wV x.ver) rfl (wE (by rw [(rn 7 4 (by omega)).2, hx2]; exact w_wrap _)) ?_
    repeat (first | refine xst ?_ | refine xar ?_ | refine xop ?_ | refine xlen ?_ | refine xld rfl ?_ | refine xsto rfl ?_ | refine xno ?_ | refine xt ?_ | refine xf ?_ | refine xnu ?_)
    refine xcall (num_spec q a2 c2 11 c 0 1 (by omega) (by omega) (by omega) (by omega) hcap) ?_
    rintro v H ⟨rfl, rfl⟩
    refine G.app ?_
    refine xrep 0 [.slice a2 c.length c2, .int .i64 ((12 : Nat) : Int), .int .i64 0] rfl (rn 11 1 (by omega)).1 ?_
    repeat (refine xnot 38 ?_; first | refine xst ?_ | refine xar ?_ | refine xop ?_ | refine xlen ?_ | refine xld rfl ?_ | refine xsto rfl ?_ | refine xno ?_ | refine xt ?_ | refine xf ?_ | refine xnu ?_)
    refine xE 38 (.int .i64 x.code) rfl (congrArg (Value.int .i64) (by rw [(rn 11 1 (by omega)).2, hx3]; exact wrap_nat (by have := lt1 11; omega))) ?_
    repeat (first | refine xst ?_ | refine xar ?_ | refine xop ?_ | refine xlen ?_ | refine xld rfl ?_ | refine xsto rfl ?_ | refine xno ?_ | refine xt ?_ | refine xf ?_ | refine xnu ?_)
    refine xcall (avalid_spec x) ?_
    rintro v H ⟨rfl, rfl⟩
    refine G.app ?_
    have hent : entF n b = if x.valid = true ∧ x.sec n = b then some x else none := by unfold entF; rw [ho, hx]
    cases hv : x.valid with
    | false =>
      rw [if_neg (by rw [hv]; rintro ⟨h, _⟩; cases h)] at hent
      repeat (first | refine xst ?_ | refine xar ?_ | refine xop ?_ | refine xlen ?_ | refine xld rfl ?_ | refine xsto rfl ?_ | refine xno ?_ | refine xt ?_ | refine xf ?_ | refine xnu ?_)
      refine xretm [] rfl (.c (.t .nil) rfl rfl (partF_all rfl rfl)) ⟨?_, rfl⟩
      rw [hent]; rfl
    | true =>
      repeat (first | refine xst ?_ | refine xar ?_ | refine xop ?_ | refine xlen ?_ | refine xld rfl ?_ | refine xsto rfl ?_ | refine xno ?_ | refine xt ?_ | refine xf ?_ | refine xnu ?_)
      refine xcall (asec_spec n (by omega) x hv) ?_
      rintro v H ⟨a3, c3, rfl, rfl⟩
      refine G.app ?_
      repeat (first | refine xst ?_ | refine xar ?_ | refine xop ?_ | refine xlen ?_ | refine xld rfl ?_ | refine xsto rfl ?_ | refine xno ?_ | refine xt ?_ | refine xf ?_ | refine xnu ?_)
      refine xcall (equal_spec a3 (x.sec n).length c3 (x.sec n) a m cap b) ?_
      rintro v H ⟨rfl, rfl⟩
      refine G.app ?_
      by_cases he : x.sec n = b
      · rw [if_pos ⟨hv, he⟩] at hent
        refine xE 48 (.bool true) rfl (congrArg Value.bool (decide_eq_true he)) ?_
        repeat (first | refine xst ?_ | refine xar ?_ | refine xop ?_ | refine xlen ?_ | refine xld rfl ?_ | refine xsto rfl ?_ | refine xno ?_ | refine xt ?_ | refine xf ?_ | refine xnu ?_)
        refine xretm [] rfl (.c (.t .nil) rfl rfl (partF_all rfl rfl)) ⟨?_, rfl⟩
        rw [hent]; rfl
      · rw [if_neg (fun h => he h.2)] at hent
        refine xE 48 (.bool false) rfl (congrArg Value.bool (decide_eq_false he)) ?_
        repeat (first | refine xst ?_ | refine xar ?_ | refine xop ?_ | refine xlen ?_ | refine xld rfl ?_ | refine xsto rfl ?_ | refine xno ?_ | refine xt ?_ | refine xf ?_ | refine xnu ?_)
        refine xretm [] rfl (.c (.t .nil) rfl rfl (partF_all rfl rfl)) ⟨?_, rfl⟩
        rw [hent]; rfl

/-! ## The log in memory -/
def logC (p : Nat) (a : Option Addr) (cap : Nat) (es : List Ntr) (dead : Bool) : List Value := [.pointer (some ⟨p, 0, none⟩), .slice a es.length cap, .bool dead]
def logL (l p : Nat) (a : Option Addr) (cap : Nat) (es : List Ntr) (dead : Bool) : List HProp := [pts l (logC p a cap es dead), sl 4 a es.length cap (ntrV es)]
def logH (l p : Nat) (es : List Ntr) (dead : Bool) : HProp := exP fun a : Option Addr => exP fun cap : Nat => starP (logL l p a cap es dead)
theorem log_fold (l p : Nat) (es : List Ntr) (dead : Bool) (a : Option Addr) (cap : Nat) (w : World) (F : Foot) (h : Sat (logL l p a cap es dead) w F) : (logH l p es dead).holds w F := ⟨a, cap, h⟩
section
variable {fn : Func} {rd : List HProp} {post : Post} {C : Ctx pg fn rd post} {K : List It} {L : Env} {H : List HProp}
theorem G.log (l : Nat) {p : Nat} {es : List Ntr} {dead : Bool} {R : List HProp} [pk : Rem H (logH l p es dead) R] (k : ∀ a cap, G C K L (pts l (logC p a cap es dead) :: sl 4 a es.length cap (ntrV es) :: R)) : G C K L H := by
  refine fun act w F ha hs hf => ?_
  obtain ⟨F1, F2, ⟨a, cap, h⟩, h2, hd, h3, h4⟩ := pk.ent w F hs
  exact k a cap act w F ha (Sat.append.2 ⟨F1, F2, h, h2, hd, h3, h4⟩ : Sat (logL l p a cap es dead ++ R) w F) hf
theorem log_rd {l p : Nat} {es : List Ntr} {dead : Bool} (h : RP C (logH l p es dead)) : ∃ a cap, RB C l (logC p a cap es dead) ∧ RS C 4 a es.length cap (ntrV es) := by
  obtain ⟨a, h⟩ := RP.ex (f := fun a : Option Addr => exP fun cap : Nat => starP (logL l p a cap es dead)) h
  obtain ⟨cap, h⟩ := h.ex
  have h := h.star
  exact ⟨a, cap, (h _ (by simp [logL])).pts, (h _ (by simp [logL])).sl⟩
end
/-- The entries that stand from the n-th sector on. -/
def logGo (S : Dk) (f : Nat) : Nat → Nat → List Ntr
  | _, 0 => []
  | n, k + 1 => match entF n (S.get (f + n)).1 with
    | some x => x :: logGo S f (n + 1) k
    | none => []
theorem logGo_len (S : Dk) (f : Nat) : ∀ n k, (logGo S f n k).length ≤ k
  | _, 0 => Nat.le_refl _
  | n, k + 1 => by
    unfold logGo
    split
    · simp only [List.length_cons]; have := logGo_len S f (n + 1) k; omega
    · exact Nat.zero_le _
theorem read_on {S : Dk} (hoff : S.off = false) {k : Nat} (hk : k < S.sec.length) : S.read (k : Int) = (0, (S.get k).1) := by
  unfold Dk.read Dk.has
  rw [decide_eq_true (by omega), decide_eq_true (by omega), hoff]; rfl
theorem pread_on {S : Dk} (hoff : S.off = false) {f c k : Nat} (hk : k < c) (hfc : f + c ≤ S.sec.length) : preadF S f c (k : Int) = (0, (S.get (f + k)).1) := by
  unfold preadF
  rw [if_pos (by omega), show (f : Int) + (k : Int) = ((f + k : Nat) : Int) by omega]
  exact read_on hoff (by omega)
theorem aopen_spec (p f c d : Nat) (S : Dk) (ok : S.ok) (hoff : S.off = false) (hp : S.pend.length ≤ 1000000) (hfc : f + c ≤ S.sec.length) : Fun Tryz.prog 36 [.pointer (some ⟨p, 0, none⟩)] [gNib, rdb p (ptC f c d), diskH d S] []
    fun v H => ∃ l : Nat, v = .tuple #[.pointer (some ⟨l, 0, none⟩), .int .i64 0] ∧ H = [logH l p (logGo S f 0 c) false] := by
  refine xenter (p := pg) Tryz.call36 Tryz.func36 fun C => ?_
  haveI : RP C gNib := RP.of C (by simp)
  haveI := RP.rdb (RP.of C (X := rdb p (ptC f c d)) (by simp))
  haveI : RP C (diskH d S) := RP.of C (by simp)
  have hfew := ok.few
  repeat (first | refine xst ?_ | refine xar ?_ | refine xop ?_ | refine xlen ?_ | refine xld rfl ?_ | refine xsto rfl ?_ | refine xno ?_ | refine xt ?_ | refine xf ?_ | refine xnu ?_)
  refine xnew fun l => ?_
  refine xrep 0 (logC p none 0 [] false) rfl rfl ?_
  repeat (first | refine xst ?_ | refine xar ?_ | refine xop ?_ | refine xlen ?_ | refine xld rfl ?_ | refine xsto rfl ?_ | refine xno ?_ | refine xt ?_ | refine xf ?_ | refine xnu ?_)
  refine xcall (psize_spec p f c d) ?_
  rintro v H ⟨rfl, rfl⟩
  refine G.app ?_
  refine G.sln 4 ?_
  repeat (refine xnot 16 ?_; first | refine xst ?_ | refine xar ?_ | refine xop ?_ | refine xlen ?_ | refine xld rfl ?_ | refine xsto rfl ?_ | refine xno ?_ | refine xt ?_ | refine xf ?_ | refine xnu ?_)
  refine xst ?_
  refine G.cut (σ := Unit) (fun _ => [(4, .pointer (some ⟨l, 0, none⟩))]) (fun _ => [logH l p (logGo S f 0 c) false]) (fun _ => True) ?_ ?_
  · repeat (first | refine xst ?_ | refine xar ?_ | refine xop ?_ | refine xlen ?_ | refine xld rfl ?_ | refine xsto rfl ?_ | refine xno ?_ | refine xt ?_ | refine xf ?_ | refine xnu ?_)
    refine G.loop (σ := Nat × Option Addr × Nat × List Ntr) (fun s__ => [(0, .pointer (some ⟨p, 0, none⟩)), (4, .pointer (some ⟨l, 0, none⟩)), (15, .int .i64 (c : Int)), (16, .int .i64 (s__.1 : Int))]) (fun s__ => [sl 4 s__.2.1 s__.2.2.2.length s__.2.2.1 (ntrV s__.2.2.2), pts l (logC p s__.2.1 s__.2.2.1 s__.2.2.2 false)]) (fun s__ => s__.1 ≤ c ∧ s__.2.2.2.length = s__.1 ∧ logGo S f 0 c = s__.2.2.2 ++ logGo S f s__.1 (c - s__.1)) (fun s__ => c - s__.1) (0, none, 0, []) ⟨Nat.zero_le _, rfl, rfl⟩ (by repeat (first | exact trivial | refine ⟨rfl, ?_⟩)) (by show Ent _ [sl 4 none 0 0 [], pts l (logC p none 0 [] false)]; exact ent_pick) ?_
    rintro ⟨i, a, cap, es⟩ hI
    have hI : i ≤ c ∧ es.length = i ∧ logGo S f 0 c = es ++ logGo S f i (c - i) := hI
    show G C _ [(0, .pointer (some ⟨p, 0, none⟩)), (4, .pointer (some ⟨l, 0, none⟩)), (15, .int .i64 (c : Int)), (16, .int .i64 (i : Int))] [sl 4 a es.length cap (ntrV es), pts l (logC p a cap es false)]
    obtain ⟨hi, hes, hv⟩ := hI
    repeat (first | refine xst ?_ | refine xar ?_ | refine xop ?_ | refine xlen ?_ | refine xld rfl ?_ | refine xsto rfl ?_ | refine xno ?_ | refine xt ?_ | refine xf ?_ | refine xnu ?_)
    refine xd (q := (i : Int) < (c : Int)) (fun h => ?_) (fun h => ?_)
    · have h : i < c := by omega
      rw [show c - i = (c - (i + 1)) + 1 by omega, logGo] at hv
      repeat (first | refine xst ?_ | refine xar ?_ | refine xop ?_ | refine xlen ?_ | refine xld rfl ?_ | refine xsto rfl ?_ | refine xno ?_ | refine xt ?_ | refine xf ?_ | refine xnu ?_)
      refine xcall (pread_spec p f c d S (i : Int) hp (by omega) (by omega)) ?_
      rintro v H ⟨a1, c1, rfl, rfl⟩
      refine G.app ?_
      have hrd := pread_on hoff h hfc
      obtain ⟨b, hb⟩ : ∃ b, (S.get (f + i)).1 = b := ⟨_, rfl⟩
      have hb64 : b.length = 64 := by rw [← hb]; exact (S.get (f + i)).2
      rw [hb] at hrd hv
      refine xE 22 (.tuple #[.slice a1 b.length c1, .int .i64 0]) rfl (by rw [hrd]) ?_
      refine xreH 0 (sl 1 a1 b.length c1 (bsV b)) rfl (by rw [hrd]) ?_
      refine xslf 0 rfl fun _ hc1 _ => ?_
      repeat (first | refine xst ?_ | refine xar ?_ | refine xop ?_ | refine xlen ?_ | refine xld rfl ?_ | refine xsto rfl ?_ | refine xno ?_ | refine xt ?_ | refine xf ?_ | refine xnu ?_)
      refine xcall (entry_spec i (by omega) a1 b.length c1 b rfl hb64 hc1) ?_
      rintro v H ⟨rfl, rfl⟩
      refine G.app ?_
      cases he : entF i b with
      | none =>
        rw [he] at hv
        have hv : logGo S f 0 c = es := by rw [hv]; simp
        refine xE 33 (entV none) rfl rfl ?_
        repeat (first | refine xst ?_ | refine xar ?_ | refine xop ?_ | refine xlen ?_ | refine xld rfl ?_ | refine xsto rfl ?_ | refine xno ?_ | refine xt ?_ | refine xf ?_ | refine xnu ?_)
        refine xnew fun b9 => ?_
        repeat (first | refine xst ?_ | refine xar ?_ | refine xop ?_ | refine xlen ?_ | refine xld rfl ?_ | refine xsto rfl ?_ | refine xno ?_ | refine xt ?_ | refine xf ?_ | refine xnu ?_)
        refine xfold (logH l p es false) [3, 2] rfl (log_fold l p es false a cap) ?_
        refine G.fin () trivial ⟨rfl, trivial⟩ ?_
        rw [hv]; exact ent_pick
      | some x =>
        rw [he] at hv
        have hv : logGo S f 0 c = (es ++ [x]) ++ logGo S f (i + 1) (c - (i + 1)) := by rw [hv]; simp
        refine xE 33 (.tuple #[.agg x.v.toArray, .bool true]) rfl rfl ?_
        repeat (first | refine xst ?_ | refine xar ?_ | refine xop ?_ | refine xlen ?_ | refine xld rfl ?_ | refine xsto rfl ?_ | refine xno ?_ | refine xt ?_ | refine xf ?_ | refine xnu ?_)
        refine xnew fun b9 => ?_
        refine xrep 0 Ntr.zero.v rfl rfl ?_
        refine xsta (cs := x.v) rfl rfl x.v_one x.v (put_all (by show 4 = 4; rfl)) (by exact Nat.le_of_ble_eq_true rfl) ?_
        repeat (first | refine xst ?_ | refine xar ?_ | refine xop ?_ | refine xlen ?_ | refine xld rfl ?_ | refine xsto rfl ?_ | refine xno ?_ | refine xt ?_ | refine xf ?_ | refine xnu ?_)
        refine xdraw ?_
        refine xdop 0 ?_
        refine xdop 1 ?_
        refine xdop 2 ?_
        refine xdop 3 ?_
        refine xdld 4 rfl rfl ?_
        refine xdld 5 rfl rfl ?_
        refine xdact 6 ?_
        refine xbsl1 rfl rfl fun b44 => ?_
        refine xst ?_
        refine xdact 7 ?_
        refine xapp (ntrV es) rfl (SrcOk.blk (ys := x.v) rfl (Nat.le_of_ble_eq_true rfl) x.v_one) (by show (es.length + 1) * 32 ≤ _; omega) fun a' cap' => ?_
        refine xst ?_
        refine xdop 8 ?_
        refine xdop 9 ?_
        refine xdact 10 ?_
        refine xsto rfl ?_
        refine xst ?_
        refine xdend ?_
        repeat (first | refine xst ?_ | refine xar ?_ | refine xop ?_ | refine xlen ?_ | refine xld rfl ?_ | refine xsto rfl ?_ | refine xno ?_ | refine xt ?_ | refine xf ?_ | refine xnu ?_)
        refine G.fin (i + 1, a', cap', es ++ [x]) ⟨⟨by show i + 1 ≤ c; omega, by show (es ++ [x]).length = i + 1; simp [hes], hv⟩, by show c - (i + 1) < c - i; omega⟩ ⟨rfl, rfl, rfl, rfl, trivial⟩ ?_
        show Ent _ [sl 4 a' (es ++ [x]).length cap' (ntrV (es ++ [x])), pts l (logC p a' cap' (es ++ [x]) false)]
        rw [ntrV_append, show ntrV [x] = x.v by simp [ntrV]]
        unfold logC
        rw [List.length_append, List.length_singleton]
        exact ent_pick
    · obtain rfl : i = c := by omega
      rw [Nat.sub_self, logGo, List.append_nil] at hv
      repeat (first | refine xst ?_ | refine xar ?_ | refine xop ?_ | refine xlen ?_ | refine xld rfl ?_ | refine xsto rfl ?_ | refine xno ?_ | refine xt ?_ | refine xf ?_ | refine xnu ?_)
      refine xfold (logH l p es false) [1, 0] rfl (log_fold l p es false a cap) ?_
      refine G.fin () trivial ⟨rfl, trivial⟩ ?_
      rw [hv]; exact ent_pick
  rintro _ hI
  have hI : True := hI
  show G C _ [(4, .pointer (some ⟨l, 0, none⟩))] [logH l p (logGo S f 0 c) false]
  repeat (first | refine xst ?_ | refine xar ?_ | refine xop ?_ | refine xlen ?_ | refine xld rfl ?_ | refine xsto rfl ?_ | refine xno ?_ | refine xt ?_ | refine xf ?_ | refine xnu ?_)
  refine xretp [0] ?_
  exact ⟨l, rfl, rfl⟩
end Go.Proofs.YtdalmiacjicgpaaGreatDoor

/- audit: Add, Entries; loader: sectors. -/
namespace Go.Proofs.YtdalmiacjicgpaaGreatDoor
open Go.W

theorem clonentr_spec (a : Option Addr) (n cap : Nat) (l : List Ntr) (hn : n = l.length) (hl : n ≤ 1000000) : Fun Tryz.prog 84 [.slice a n cap] [slR 4 a n cap (ntrV l)] [] fun v H => ∃ a' cap', v = .slice a' l.length cap' ∧ H = [sl 4 a' l.length cap' (ntrV l)] := by
  subst hn
  refine xenter (p := pg) Tryz.call84 Tryz.func84 fun C => ?_
  haveI hr := RP.slR (RP.of C (X := slR 4 a l.length cap (ntrV l)) (by simp))
  cases a with
  | none =>
    have hl0 : l = [] := by
      cases l with
      | nil => rfl
      | cons x r => obtain ⟨_, _, h, _⟩ := hr.some (Nat.zero_lt_succ _); cases h
    subst hl0
    repeat (first | refine xst ?_ | refine xar ?_ | refine xop ?_ | refine xlen ?_ | refine xld rfl ?_ | refine xsto rfl ?_ | refine xno ?_ | refine xt ?_ | refine xf ?_ | refine xnu ?_)
    refine xsn true rfl rfl ?_
    repeat (first | refine xst ?_ | refine xar ?_ | refine xop ?_ | refine xlen ?_ | refine xld rfl ?_ | refine xsto rfl ?_ | refine xno ?_ | refine xt ?_ | refine xf ?_ | refine xnu ?_)
    refine G.sln 4 ?_
    refine xretp [0] ?_
    exact ⟨none, 0, rfl, rfl⟩
  | some ad =>
    repeat (first | refine xst ?_ | refine xar ?_ | refine xop ?_ | refine xlen ?_ | refine xld rfl ?_ | refine xsto rfl ?_ | refine xno ?_ | refine xt ?_ | refine xf ?_ | refine xnu ?_)
    refine xsn false rfl rfl ?_
    repeat (first | refine xst ?_ | refine xar ?_ | refine xop ?_ | refine xlen ?_ | refine xld rfl ?_ | refine xsto rfl ?_ | refine xno ?_ | refine xt ?_ | refine xf ?_ | refine xnu ?_)
    refine xbsl fun b => ?_
    refine xslc 0 4 0 [] rfl rfl rfl ?_
    repeat (first | refine xst ?_ | refine xar ?_ | refine xop ?_ | refine xlen ?_ | refine xld rfl ?_ | refine xsto rfl ?_ | refine xno ?_ | refine xt ?_ | refine xf ?_ | refine xnu ?_)
    refine xapp [] rfl (SrcOk.rs hr (ntrV_one _)) (by show (0 + l.length) * 32 ≤ _; omega) fun a1 c1 => ?_
    repeat (first | refine xst ?_ | refine xar ?_ | refine xop ?_ | refine xlen ?_ | refine xld rfl ?_ | refine xsto rfl ?_ | refine xno ?_ | refine xt ?_ | refine xf ?_ | refine xnu ?_)
    refine xretp [0] ?_
    exact ⟨a1, c1, by simp [resV], by simp⟩
theorem entries_spec (l p : Nat) (es : List Ntr) (dead : Bool) (hl : es.length ≤ 1000000) : Fun Tryz.prog 41 [.pointer (some ⟨l, 0, none⟩)] [logH l p es dead] [] fun v H => ∃ a' cap', v = .slice a' es.length cap' ∧ H = [sl 4 a' es.length cap' (ntrV es)] := by
  refine xenter (p := pg) Tryz.call41 Tryz.func41 fun C => ?_
  obtain ⟨a, cap, hb, hs⟩ := log_rd (RP.of C (X := logH l p es dead) (by simp))
  repeat (first | refine xst ?_ | refine xar ?_ | refine xop ?_ | refine xlen ?_ | refine xld rfl ?_ | refine xsto rfl ?_ | refine xno ?_ | refine xt ?_ | refine xf ?_ | refine xnu ?_)
  refine xcall (clonentr_spec a es.length cap es rfl hl) ?_
  rintro v H ⟨a', c', rfl, rfl⟩
  refine G.app ?_
  repeat (first | refine xst ?_ | refine xar ?_ | refine xop ?_ | refine xlen ?_ | refine xld rfl ?_ | refine xsto rfl ?_ | refine xno ?_ | refine xt ?_ | refine xf ?_ | refine xnu ?_)
  refine xretp [0] ?_
  exact ⟨a', c', rfl, rfl⟩

/-- What comes of an entry that is appended: the answer, the disk, the entries, whether the log is dead. -/
def addF (S : Dk) (f c : Nat) (es : List Ntr) (x : Ntr) : Int × Dk × List Ntr × Bool :=
  let r := pwriteF S f c (es.length : Int) (x.sec es.length)
  if r.1 = 0 then (let q := r.2.flush; if q.1 = 0 then (0, q.2, es ++ [x], false) else (q.1, q.2, es, true)) else (r.1, r.2, es, true)
theorem pwrite_ok {S : Dk} (ok : S.ok) (f c : Nat) (at_ : Int) (b : List UInt8) : (pwriteF S f c at_ b).2.ok := by
  unfold pwriteF; split
  · exact write_ok ok _ _
  · exact ok
theorem pwrite_len (S : Dk) (f c : Nat) (at_ : Int) (b : List UInt8) : (pwriteF S f c at_ b).2.sec.length = S.sec.length := by
  unfold pwriteF; split
  · exact write_len S _ _
  · rfl
theorem pwrite_pend (S : Dk) (f c : Nat) (at_ : Int) (b : List UInt8) : (pwriteF S f c at_ b).2.pend.length ≤ S.pend.length + 1 := by
  unfold pwriteF; split
  · exact write_pend S _ _
  · exact Nat.le_succ _
theorem aadd_spec (l p f c d : Nat) (S : Dk) (ok : S.ok) (hp : S.pend.length ≤ 900000) (hf : f ≤ 1000000) (hcc : c ≤ 900000) (es : List Ntr) (hes : es.length < c) (x : Ntr) (hx : x.valid = true) :
    Fun Tryz.prog 45 [.pointer (some ⟨l, 0, none⟩), .agg x.v.toArray] [gNib, rdb p (ptC f c d)] [logH l p es false, diskH d S]
    fun v H => v = .int .i64 (addF S f c es x).1 ∧ H = [logH l p (addF S f c es x).2.2.1 (addF S f c es x).2.2.2, diskH d (addF S f c es x).2.1] := by
  refine xenter (p := pg) Tryz.call45 Tryz.func45 fun C => ?_
  haveI : RP C gNib := RP.of C (by simp)
  haveI := RP.rdb (RP.of C (X := rdb p (ptC f c d)) (by simp))
  refine G.log l (p := p) (es := es) (dead := false) fun a cap => ?_
  refine xst ?_
  refine xst ?_
  refine xnew fun xb => ?_
  refine xrep 0 x.v rfl rfl ?_
  repeat (first | refine xst ?_ | refine xar ?_ | refine xop ?_ | refine xlen ?_ | refine xld rfl ?_ | refine xsto rfl ?_ | refine xno ?_ | refine xt ?_ | refine xf ?_ | refine xnu ?_)
  refine xcall (avalid_spec x) ?_
  rintro v H ⟨rfl, rfl⟩
  refine G.app ?_
  rw [hx]
  repeat (first | refine xst ?_ | refine xar ?_ | refine xop ?_ | refine xlen ?_ | refine xld rfl ?_ | refine xsto rfl ?_ | refine xno ?_ | refine xt ?_ | refine xf ?_ | refine xnu ?_)
  refine xcall (psize_spec p f c d) ?_
  rintro v H ⟨rfl, rfl⟩
  refine G.app ?_
  repeat (refine xnot 28 ?_; first | refine xst ?_ | refine xar ?_ | refine xop ?_ | refine xlen ?_ | refine xld rfl ?_ | refine xsto rfl ?_ | refine xno ?_ | refine xt ?_ | refine xf ?_ | refine xnu ?_)
  refine xE 28 (.bool false) rfl (congrArg Value.bool (decide_eq_false (by omega))) ?_
  repeat (first | refine xst ?_ | refine xar ?_ | refine xop ?_ | refine xlen ?_ | refine xld rfl ?_ | refine xsto rfl ?_ | refine xno ?_ | refine xt ?_ | refine xf ?_ | refine xnu ?_)
  obtain ⟨r, hr⟩ : ∃ r, pwriteF S f c (es.length : Int) (x.sec es.length) = r := ⟨_, rfl⟩
  have hrok : r.2.ok := by rw [← hr]; exact pwrite_ok ok _ _ _ _
  have hrp : r.2.pend.length ≤ S.pend.length + 1 := by rw [← hr]; exact pwrite_pend _ _ _ _ _
  have hA : addF S f c es x = if r.1 = 0 then (if r.2.flush.1 = 0 then (0, r.2.flush.2, es ++ [x], false) else (r.2.flush.1, r.2.flush.2, es, true)) else (r.1, r.2, es, true) := by unfold addF; rw [hr]
  refine xdraw ?_
  refine xdop 0 ?_
  refine xdop 1 ?_
  refine xdop 2 ?_
  refine xdld 3 rfl rfl ?_
  refine xdop 4 ?_
  refine xdop 5 ?_
  refine xdld 6 rfl rfl ?_
  refine xdact 7 ?_
  refine xcall (asec_spec es.length (by omega) x hx) ?_
  rintro v H ⟨a2, c2, rfl, rfl⟩
  refine G.app ?_
  refine xst ?_
  refine xdact 8 ?_
  refine xcall (pwrite_spec p f c d S ok (es.length : Int) (by omega) hf (by omega) a2 (x.sec es.length).length c2 (x.sec es.length) rfl) ?_
  rintro v H ⟨rfl, rfl⟩
  refine G.app ?_
  refine xst ?_
  refine xdop 9 ?_
  refine xdend ?_
  refine xE 37 (.int .i64 r.1) rfl (by rw [hr]) ?_
  refine xE 6 (.int .i64 r.1) rfl (by rw [hr]) ?_
  refine xreH 0 (diskH d r.2) rfl (by rw [hr]) ?_
  repeat (first | refine xst ?_ | refine xar ?_ | refine xop ?_ | refine xlen ?_ | refine xld rfl ?_ | refine xsto rfl ?_ | refine xno ?_ | refine xt ?_ | refine xf ?_ | refine xnu ?_)
  refine xd (q := r.1 = 0) (fun h => ?_) (fun h => ?_)
  · rw [if_pos h] at hA
    repeat (first | refine xst ?_ | refine xar ?_ | refine xop ?_ | refine xlen ?_ | refine xld rfl ?_ | refine xsto rfl ?_ | refine xno ?_ | refine xt ?_ | refine xf ?_ | refine xnu ?_)
    refine xcall (pflush_spec p f c d r.2 hrok (by omega)) ?_
    rintro v H ⟨rfl, rfl⟩
    refine G.app ?_
    obtain ⟨q, hq⟩ : ∃ q, r.2.flush = q := ⟨_, rfl⟩
    rw [hq] at hA
    refine xE 44 (.int .i64 q.1) rfl (by rw [hq]) ?_
    refine xreH 0 (diskH d q.2) rfl (by rw [hq]) ?_
    repeat (first | refine xst ?_ | refine xar ?_ | refine xop ?_ | refine xlen ?_ | refine xld rfl ?_ | refine xsto rfl ?_ | refine xno ?_ | refine xt ?_ | refine xf ?_ | refine xnu ?_)
    refine xd (q := q.1 ≠ 0) (fun h2 => ?_) (fun h2 => ?_)
    · rw [if_neg h2] at hA
      repeat (first | refine xst ?_ | refine xar ?_ | refine xop ?_ | refine xlen ?_ | refine xld rfl ?_ | refine xsto rfl ?_ | refine xno ?_ | refine xt ?_ | refine xf ?_ | refine xnu ?_)
      refine xrep 3 (logC p a cap es true) rfl rfl ?_
      refine xfold (logH l p es true) [0, 3] rfl (log_fold l p es true a cap) ?_
      refine xretp [0, 0] ?_
      rw [hA]; exact ⟨rfl, rfl⟩
    · rw [if_pos (by omega)] at hA
      repeat (first | refine xst ?_ | refine xar ?_ | refine xop ?_ | refine xlen ?_ | refine xld rfl ?_ | refine xsto rfl ?_ | refine xno ?_ | refine xt ?_ | refine xf ?_ | refine xnu ?_)
      refine xdraw ?_
      refine xdop 0 ?_
      refine xdop 1 ?_
      refine xdop 2 ?_
      refine xdop 3 ?_
      refine xdld 4 rfl rfl ?_
      refine xdld 5 rfl rfl ?_
      refine xdact 6 ?_
      refine xbsl1 rfl rfl fun b57 => ?_
      refine xst ?_
      refine xdact 7 ?_
      refine xapp (ntrV es) rfl (SrcOk.blk (ys := x.v) rfl (Nat.le_of_ble_eq_true rfl) x.v_one) (by show (es.length + 1) * 32 ≤ _; omega) fun a' cap' => ?_
      refine xst ?_
      refine xdop 8 ?_
      refine xdop 9 ?_
      refine xdact 10 ?_
      refine xsto rfl ?_
      refine xst ?_
      refine xdend ?_
      repeat (first | refine xst ?_ | refine xar ?_ | refine xop ?_ | refine xlen ?_ | refine xld rfl ?_ | refine xsto rfl ?_ | refine xno ?_ | refine xt ?_ | refine xf ?_ | refine xnu ?_)
      refine xrep 5 (logC p a' cap' (es ++ [x]) false) rfl (by unfold logC; simp) ?_
      refine xreH 1 (sl 4 a' (es ++ [x]).length cap' (ntrV (es ++ [x]))) rfl (by rw [ntrV_append, List.length_append, show ntrV [x] = x.v by simp [ntrV]]; rfl) ?_
      refine xfold (logH l p (es ++ [x]) false) [1, 0] rfl (log_fold l p (es ++ [x]) false a' cap') ?_
      refine xretp [0, 1] ?_
      rw [hA]; exact ⟨rfl, rfl⟩
  · rw [if_neg h] at hA
    repeat (first | refine xst ?_ | refine xar ?_ | refine xop ?_ | refine xlen ?_ | refine xld rfl ?_ | refine xsto rfl ?_ | refine xno ?_ | refine xt ?_ | refine xf ?_ | refine xnu ?_)
    refine xd (q := r.1 ≠ 0) (fun h2 => ?_) (fun h2 => absurd h h2)
    repeat (first | refine xst ?_ | refine xar ?_ | refine xop ?_ | refine xlen ?_ | refine xld rfl ?_ | refine xsto rfl ?_ | refine xno ?_ | refine xt ?_ | refine xf ?_ | refine xnu ?_)
    refine xrep 3 (logC p a cap es true) rfl rfl ?_
    refine xfold (logH l p es true) [0, 3] rfl (log_fold l p es true a cap) ?_
    refine xretp [0, 0] ?_
    rw [hA]; exact ⟨rfl, rfl⟩
end Go.Proofs.YtdalmiacjicgpaaGreatDoor

/- loader: sectors. -/
namespace Go.Proofs.YtdalmiacjicgpaaGreatDoor
open Go.W

def secR (l : UInt8) (g : UInt32) (rest : List UInt8) : List UInt8 := l :: (putB g.toNat 4 ++ rest)
def secB (l : UInt8) (g : UInt32) (rest : List UInt8) : List UInt8 := sealF (pad60 (secR l g rest))
theorem secR_len (l : UInt8) (g : UInt32) (rest : List UInt8) : (secR l g rest).length = rest.length + 5 := by simp [secR, putB_length]; omega
theorem secB_len (l : UInt8) (g : UInt32) {rest : List UInt8} (h : rest.length ≤ 55) : (secB l g rest).length = 64 := by unfold secB; rw [sealF_len, pad60_len (by rw [secR_len]; omega)]
theorem lsec_spec (l : UInt8) (g : UInt32) (a : Option Addr) (n cap : Nat) (rest : List UInt8) (hn : n = rest.length) (h : n ≤ 55) : Fun Tryz.prog 135 [bV l, wV g, .slice a n cap] [gNib, slR 1 a n cap (bsV rest)] [] fun v H => ∃ a' cap', v = .slice a' (secB l g rest).length cap' ∧ H = [sl 1 a' (secB l g rest).length cap' (bsV (secB l g rest))] := by
  subst hn
  refine xenter (p := pg) Tryz.call135 Tryz.func135 fun C => ?_
  haveI : RP C gNib := RP.of C (by simp)
  haveI hr := RP.slR (RP.of C (X := slR 1 a rest.length cap (bsV rest)) (by simp))
  have hg := g.toNat_lt
  repeat (first | refine xst ?_ | refine xar ?_ | refine xop ?_ | refine xlen ?_ | refine xld rfl ?_ | refine xsto rfl ?_ | refine xno ?_ | refine xt ?_ | refine xf ?_ | refine xnu ?_)
  refine xbsl fun b10 => ?_
  refine xslc 0 1 1 (bsV [l]) rfl rfl rfl ?_
  repeat (refine xnot 12 ?_; first | refine xst ?_ | refine xar ?_ | refine xop ?_ | refine xlen ?_ | refine xld rfl ?_ | refine xsto rfl ?_ | refine xno ?_ | refine xt ?_ | refine xf ?_ | refine xnu ?_)
  refine xE 12 (.int .u64 (g.toNat : Int)) rfl (congrArg (Value.int .u64) (u64_wrap (by omega))) ?_
  refine xcall (put_spec g.toNat 4 (by omega)) ?_
  rintro v H ⟨a1, c1, rfl, rfl⟩
  refine G.app ?_
  have e4 : putO g.toNat 4 = putB g.toNat 4 := rfl
  have l4 : (putO g.toNat 4).length = 4 := by rw [e4, putB_length]
  refine xapp (bsV [l]) rfl (SrcOk.sl (by rw [bsV_length, Nat.mul_one]) (bsV_one _)) (by rw [l4]; decide) fun a2 c2 => ?_
  repeat (first | refine xst ?_ | refine xar ?_ | refine xop ?_ | refine xlen ?_ | refine xld rfl ?_ | refine xsto rfl ?_ | refine xno ?_ | refine xt ?_ | refine xf ?_ | refine xnu ?_)
  refine xapp (bsV [l] ++ bsV (putO g.toNat 4)) rfl (SrcOk.rs hr (bsV_one _)) (by rw [l4]; omega) fun a3 c3 => ?_
  obtain ⟨raw, hraw⟩ : ∃ r, r = secR l g rest := ⟨_, rfl⟩
  have hrl : raw.length = rest.length + 5 := by rw [hraw, secR_len]
  refine xE 17 (.slice a3 raw.length c3) rfl (by rw [l4, hrl]; congr 1; omega) ?_
  refine xreH 0 (sl 1 a3 raw.length c3 (bsV raw)) rfl (by rw [l4, hrl, hraw, e4]; unfold secR; congr 1; omega) ?_
  repeat (first | refine xst ?_ | refine xar ?_ | refine xop ?_ | refine xlen ?_ | refine xld rfl ?_ | refine xsto rfl ?_ | refine xno ?_ | refine xt ?_ | refine xf ?_ | refine xnu ?_)
  refine xmake 60 60 rfl rfl rfl (Nat.le_refl _) (by decide) (by decide) fun b7 => ?_
  repeat (first | refine xst ?_ | refine xar ?_ | refine xop ?_ | refine xlen ?_ | refine xld rfl ?_ | refine xsto rfl ?_ | refine xno ?_ | refine xt ?_ | refine xf ?_ | refine xnu ?_)
  refine xcopys rfl (SrcOk.sl (ys := bsV raw) (by rw [bsV_length, Nat.mul_one]) (bsV_one _)) raw.length (Nat.min_eq_left (by omega)) (bsV (pad60 raw)) ?_ (by rw [zeros_length, hrl]; show _ ≤ 60; omega) ?_
  · rw [List.take_of_length_le (by rw [bsV_length]; omega)]
    unfold pad60
    rw [bsV_append, zeros_eq]
    congr 1
    rw [Nat.mul_one]
    show ((List.replicate 60 [Value.int .u8 0]).flatten).drop raw.length = bsV (List.replicate (60 - raw.length) 0)
    have e : (List.replicate 60 [Value.int .u8 0]).flatten = bsV (List.replicate 60 0) := rfl
    rw [e, bsV_drop, List.drop_replicate]
  have hpl : (pad60 raw).length = 60 := pad60_len (by omega)
  repeat (first | refine xst ?_ | refine xar ?_ | refine xop ?_ | refine xlen ?_ | refine xld rfl ?_ | refine xsto rfl ?_ | refine xno ?_ | refine xt ?_ | refine xf ?_ | refine xnu ?_)
  refine xcall (seal_spec (some ⟨b7, 0, none⟩) 60 60 (pad60 raw) hpl.symm (by decide)) ?_
  rintro v H ⟨a6, c6, rfl, rfl⟩
  refine G.app ?_
  repeat (first | refine xst ?_ | refine xar ?_ | refine xop ?_ | refine xlen ?_ | refine xld rfl ?_ | refine xsto rfl ?_ | refine xno ?_ | refine xt ?_ | refine xf ?_ | refine xnu ?_)
  refine xretp [0] ?_
  unfold secB
  rw [← hraw]
  exact ⟨a6, c6, rfl, rfl⟩
def headB (g : UInt32) (n : Nat) : List UInt8 := secB 66 g (putB n 1)
theorem headB_len (g : UInt32) (n : Nat) : (headB g n).length = 64 := secB_len _ _ (by rw [putB_length]; decide)
theorem headS_spec (g : UInt32) (n : Nat) (hn : n < 1000) : Fun Tryz.prog 90 [wV g, .int .i64 (n : Int)] [gNib] [] fun v H => ∃ a' cap', v = .slice a' (headB g n).length cap' ∧ H = [sl 1 a' (headB g n).length cap' (bsV (headB g n))] := by
  refine xenter (p := pg) Tryz.call90 Tryz.func90 fun C => ?_
  haveI : RP C gNib := RP.of C (by simp)
  repeat (refine xnot 7 ?_; first | refine xst ?_ | refine xar ?_ | refine xop ?_ | refine xlen ?_ | refine xld rfl ?_ | refine xsto rfl ?_ | refine xno ?_ | refine xt ?_ | refine xf ?_ | refine xnu ?_)
  refine xE 7 (.int .u64 (n : Int)) rfl (congrArg (Value.int .u64) (u64_wrap (by omega))) ?_
  refine xcall (put_spec n 1 (by omega)) ?_
  rintro v H ⟨a1, c1, rfl, rfl⟩
  refine G.app ?_
  have l1 : (putO n 1).length = 1 := rfl
  refine xcall (lsec_spec 66 g a1 (putO n 1).length c1 (putO n 1) rfl (by rw [l1]; decide)) ?_
  rintro v H ⟨a2, c2, rfl, rfl⟩
  refine G.app ?_
  repeat (first | refine xst ?_ | refine xar ?_ | refine xop ?_ | refine xlen ?_ | refine xld rfl ?_ | refine xsto rfl ?_ | refine xno ?_ | refine xt ?_ | refine xf ?_ | refine xnu ?_)
  refine xretp [0] ?_
  exact ⟨a2, c2, rfl, rfl⟩
def firstB (g : UInt32) (m : Man) : List UInt8 := secB 73 g (encM m)
theorem encM_le {m : Man} (hs : m.sum.length = 32) : (encM m).length ≤ 40 := by
  cases h : m.ok with
  | true => rw [enc_len hs h]; decide
  | false => unfold encM; rw [if_neg (by rw [h]; decide)]; exact Nat.zero_le _
theorem firstB_len (g : UInt32) {m : Man} (hs : m.sum.length = 32) : (firstB g m).length = 64 := secB_len _ _ (by have := encM_le hs; omega)
theorem firstS_spec (g : UInt32) (m : Man) (hs : m.sum.length = 32) : Fun Tryz.prog 127 [wV g, .agg m.v.toArray] [gNib] [] fun v H => ∃ a' cap', v = .slice a' (firstB g m).length cap' ∧ H = [sl 1 a' (firstB g m).length cap' (bsV (firstB g m))] := by
  refine xenter (p := pg) Tryz.call127 Tryz.func127 fun C => ?_
  haveI : RP C gNib := RP.of C (by simp)
  have hml := Man.v_len hs
  refine xst ?_
  refine xst ?_
  refine xnew fun b => ?_
  refine xrep 0 m.v rfl rfl ?_
  repeat (first | refine xst ?_ | refine xar ?_ | refine xop ?_ | refine xlen ?_ | refine xld rfl ?_ | refine xsto rfl ?_ | refine xno ?_ | refine xt ?_ | refine xf ?_ | refine xnu ?_)
  refine xld rfl ?_ (hv := partF_all rfl hml)
  refine xcall (iencode_spec m hs) ?_
  rintro v H ⟨a1, c1, rfl, rfl⟩
  refine G.app ?_
  refine xcall (lsec_spec 73 g a1 (encM m).length c1 (encM m) rfl (by have := encM_le hs; omega)) ?_
  rintro v H ⟨a2, c2, rfl, rfl⟩
  refine G.app ?_
  repeat (first | refine xst ?_ | refine xar ?_ | refine xop ?_ | refine xlen ?_ | refine xld rfl ?_ | refine xsto rfl ?_ | refine xno ?_ | refine xt ?_ | refine xf ?_ | refine xnu ?_)
  refine xretp [0] ?_
  exact ⟨a2, c2, rfl, rfl⟩
def dataB (g : UInt32) (k : Nat) (p : List UInt8) : List UInt8 := secB 68 g (putB k 1 ++ p)
theorem dataB_len (g : UInt32) (k : Nat) {p : List UInt8} (h : p.length ≤ 54) : (dataB g k p).length = 64 := secB_len _ _ (by rw [List.length_append, putB_length]; omega)
theorem dataS_spec (g : UInt32) (k : Nat) (hk : k < 1000) (a : Option Addr) (n cap : Nat) (p : List UInt8) (hn : n = p.length) (h : n ≤ 54) : Fun Tryz.prog 128 [wV g, .int .i64 (k : Int), .slice a n cap] [gNib, slR 1 a n cap (bsV p)] [] fun v H => ∃ a' cap', v = .slice a' (dataB g k p).length cap' ∧ H = [sl 1 a' (dataB g k p).length cap' (bsV (dataB g k p))] := by
  subst hn
  refine xenter (p := pg) Tryz.call128 Tryz.func128 fun C => ?_
  haveI : RP C gNib := RP.of C (by simp)
  haveI hr := RP.slR (RP.of C (X := slR 1 a p.length cap (bsV p)) (by simp))
  repeat (refine xnot 9 ?_; first | refine xst ?_ | refine xar ?_ | refine xop ?_ | refine xlen ?_ | refine xld rfl ?_ | refine xsto rfl ?_ | refine xno ?_ | refine xt ?_ | refine xf ?_ | refine xnu ?_)
  refine xE 9 (.int .u64 (k : Int)) rfl (congrArg (Value.int .u64) (u64_wrap (by omega))) ?_
  refine xcall (put_spec k 1 (by omega)) ?_
  rintro v H ⟨a1, c1, rfl, rfl⟩
  refine G.app ?_
  have l1 : (putO k 1).length = 1 := rfl
  repeat (first | refine xst ?_ | refine xar ?_ | refine xop ?_ | refine xlen ?_ | refine xld rfl ?_ | refine xsto rfl ?_ | refine xno ?_ | refine xt ?_ | refine xf ?_ | refine xnu ?_)
  refine xapp (bsV (putO k 1)) rfl (SrcOk.rs hr (bsV_one _)) (by rw [l1]; omega) fun a2 c2 => ?_
  have hl : (putB k 1 ++ p).length = (putO k 1).length + p.length := by rw [List.length_append]; rfl
  refine xE 12 (.slice a2 (putB k 1 ++ p).length c2) rfl (by rw [hl]) ?_
  refine xreH 0 (sl 1 a2 (putB k 1 ++ p).length c2 (bsV (putB k 1 ++ p))) rfl (by rw [hl, bsV_append]; rfl) ?_
  refine xcall (lsec_spec 68 g a2 (putB k 1 ++ p).length c2 (putB k 1 ++ p) rfl (by rw [hl, l1]; omega)) ?_
  rintro v H ⟨a3, c3, rfl, rfl⟩
  refine G.app ?_
  repeat (first | refine xst ?_ | refine xar ?_ | refine xop ?_ | refine xlen ?_ | refine xld rfl ?_ | refine xsto rfl ?_ | refine xno ?_ | refine xt ?_ | refine xf ?_ | refine xnu ?_)
  refine xretp [0] ?_
  exact ⟨a3, c3, rfl, rfl⟩
theorem bankAt_spec (n : Nat) (hn : n < 1000) : Fun Tryz.prog 74 [.int .i64 (n : Int)] [] [] fun v H => v = .int .i64 ((2 + n * 11 : Nat) : Int) ∧ H = [] := by
  refine xenter (p := pg) Tryz.call74 Tryz.func74 fun C => ?_
  repeat (refine xnot 5 ?_; first | refine xst ?_ | refine xar ?_ | refine xop ?_ | refine xlen ?_ | refine xld rfl ?_ | refine xsto rfl ?_ | refine xno ?_ | refine xt ?_ | refine xf ?_ | refine xnu ?_)
  refine xE 5 (.int .i64 ((2 + n * 11 : Nat) : Int)) rfl (by first | exact congrArg (Value.int .i64) (by omega) | (refine congrArg (Value.int .i64) ?_; rw [show (2 : Int) + (n : Int) * 11 = ((2 + n * 11 : Nat) : Int) by omega]; exact wrap_nat (by omega))) ?_
  repeat (first | refine xst ?_ | refine xar ?_ | refine xop ?_ | refine xlen ?_ | refine xld rfl ?_ | refine xsto rfl ?_ | refine xno ?_ | refine xt ?_ | refine xf ?_ | refine xnu ?_)
  exact xret [] ⟨rfl, rfl⟩
end Go.Proofs.YtdalmiacjicgpaaGreatDoor

/- loader: what sectors say. -/
namespace Go.Proofs.YtdalmiacjicgpaaGreatDoor
open Go.W

theorem open_secB (l : UInt8) (g : UInt32) (rest : List UInt8) : openF (secB l g rest) = some (pad60 (secR l g rest)) := open_seal _
theorem pad_gen (l : UInt8) (g : UInt32) (rest : List UInt8) : ((pad60 (secR l g rest)).drop 1).take 4 = putB g.toNat 4 := rfl
theorem gen_back (g : UInt32) : UInt32.ofNat (numB (putB g.toNat 4)) = g := by
  have := g.toNat_lt
  rw [numB_putB, Nat.mod_eq_of_lt (by omega)]; exact w_of g
theorem tmodN (a m : Nat) : (a : Int).tmod (Int.ofNat m) = ((a % m : Nat) : Int) := rfl
def headF (at_ : Nat) (b : List UInt8) : Option (UInt32 × Nat) := match openF b with
  | some c => if 1 ≤ (UInt32.ofNat (numB ((c.drop 1).take 4))).toNat ∧ (UInt32.ofNat (numB ((c.drop 1).take 4))).toNat % 2 = at_ ∧ numB ((c.drop 5).take 1) < 2 ∧ headB (UInt32.ofNat (numB ((c.drop 1).take 4))) (numB ((c.drop 5).take 1)) = b
    then some (UInt32.ofNat (numB ((c.drop 1).take 4)), numB ((c.drop 5).take 1)) else none
  | none => none
theorem headF_some {at_ : Nat} {b : List UInt8} {g : UInt32} {n : Nat} : headF at_ b = some (g, n) ↔ 1 ≤ g.toNat ∧ g.toNat % 2 = at_ ∧ n < 2 ∧ headB g n = b := by
  unfold headF
  constructor
  · intro h
    split at h
    · split at h
      · rename_i h1
        simp only [Option.some.injEq, Prod.mk.injEq] at h
        obtain ⟨rfl, rfl⟩ := h
        exact h1
      · cases h
    · cases h
  · rintro ⟨h1, h2, h3, h4⟩
    have ho : openF b = some (pad60 (secR 66 g (putB n 1))) := by rw [← h4]; exact open_secB _ _ _
    rw [ho]
    simp only
    have e5 : ((pad60 (secR 66 g (putB n 1))).drop 5).take 1 = putB n 1 := rfl
    have e6 : numB (putB n 1) = n := by rw [numB_putB]; exact Nat.mod_eq_of_lt (by omega)
    rw [pad_gen, gen_back, e5, e6, if_pos ⟨h1, h2, h3, h4⟩]
theorem head_spec (at_ : Nat) (hat : at_ < 1000) (a : Option Addr) (m cap : Nat) (b : List UInt8) (hm : m = b.length) (h64 : b.length = 64) (hc : m ≤ cap) : Fun Tryz.prog 73 [.int .i64 (at_ : Int), .slice a m cap] [gNib, slR 1 a m cap (bsV b)] []
    fun v H => H = [] ∧ ∃ (g : UInt32) (n : Nat) (ok : Bool), v = .tuple #[wV g, .int .i64 (n : Int), .bool ok] ∧ (ok = true → headF at_ b = some (g, n)) ∧ (ok = false → headF at_ b = none) := by
  refine xenter (p := pg) Tryz.call73 Tryz.func73 fun C => ?_
  haveI : RP C gNib := RP.of C (by simp)
  haveI hb := RP.slR (RP.of C (X := slR 1 a m cap (bsV b)) (by simp))
  repeat (first | refine xst ?_ | refine xar ?_ | refine xop ?_ | refine xlen ?_ | refine xld rfl ?_ | refine xsto rfl ?_ | refine xno ?_ | refine xt ?_ | refine xf ?_ | refine xnu ?_)
  refine xcall (open_spec a m cap b hm (by omega) hc) ?_
  rintro v H h
  cases ho : openF b with
  | none =>
    have he : headF at_ b = none := by unfold headF; rw [ho]
    rw [ho] at h
    obtain ⟨e, hne, rfl, rfl⟩ := h
    refine G.app ?_
    repeat (first | refine xst ?_ | refine xar ?_ | refine xop ?_ | refine xlen ?_ | refine xld rfl ?_ | refine xsto rfl ?_ | refine xno ?_ | refine xt ?_ | refine xf ?_ | refine xnu ?_)
    refine xd (q := e ≠ 0) (fun h => ?_) (fun h => absurd hne h)
    repeat (first | refine xst ?_ | refine xar ?_ | refine xop ?_ | refine xlen ?_ | refine xld rfl ?_ | refine xsto rfl ?_ | refine xno ?_ | refine xt ?_ | refine xf ?_ | refine xnu ?_)
    refine xretp [] ?_
    exact ⟨rfl, 0, 0, false, rfl, (fun h => Bool.noConfusion h), fun _ => he⟩
  | some c =>
    rw [ho] at h
    obtain ⟨a1, c1, rfl, rfl⟩ := h
    have hbc := openF_some ho
    have hcl : c.length = 60 := by have := congrArg List.length hbc; rw [sealF_len] at this; omega
    refine G.app ?_
    repeat (first | refine xst ?_ | refine xar ?_ | refine xop ?_ | refine xlen ?_ | refine xld rfl ?_ | refine xsto rfl ?_ | refine xno ?_ | refine xt ?_ | refine xf ?_ | refine xnu ?_)
    refine xcall (read_spec a1 c.length c1 c rfl (by omega)) ?_
    rintro v H ⟨q, a2, c2, rfl, hcap, rfl⟩
    refine G.app ?_
    have rn : ∀ (at_ k : Nat), at_ + k ≤ 60 → rdV a2 c.length c2 (rdR c at_ 0 k) = [.slice a2 c.length c2, .int .i64 ((at_ + k : Nat) : Int), .int .i64 0] ∧ rdX c at_ 0 k = (c.drop at_).take k := fun at_ k h => by
      obtain ⟨h1, h2⟩ := rd_go (bs := c) (at_ := at_) (n := k) (by omega)
      rw [h1, h2]; exact ⟨rfl, rfl⟩
    have lt1 : ∀ k, numB ((c.drop k).take 1) < 256 := fun k => Nat.lt_of_lt_of_le (numB_lt _) (Nat.pow_le_pow_right (by omega) (by rw [List.length_take]; omega) : 256 ^ _ ≤ 256 ^ 1)
    obtain ⟨g, hg⟩ : ∃ g, g = UInt32.ofNat (numB ((c.drop 1).take 4)) := ⟨_, rfl⟩
    obtain ⟨n, hn⟩ : ∃ n, n = numB ((c.drop 5).take 1) := ⟨_, rfl⟩
    have hn256 : n < 256 := by rw [hn]; exact lt1 5
    have hglt := g.toNat_lt
    have hF : headF at_ b = if 1 ≤ g.toNat ∧ g.toNat % 2 = at_ ∧ n < 2 ∧ headB g n = b then some (g, n) else none := by unfold headF; rw [ho]; simp only; rw [← hg, ← hn]
    repeat (first | refine xst ?_ | refine xar ?_ | refine xop ?_ | refine xlen ?_ | refine xld rfl ?_ | refine xsto rfl ?_ | refine xno ?_ | refine xt ?_ | refine xf ?_ | refine xnu ?_)
    refine xcall (num_spec q a2 c2 0 c 0 1 (by omega) (by omega) (by omega) (by omega) hcap) ?_
    rintro v H ⟨rfl, rfl⟩
    refine G.app ?_
    refine xrep 0 [.slice a2 c.length c2, .int .i64 ((1 : Nat) : Int), .int .i64 0] rfl (rn 0 1 (by omega)).1 ?_
    repeat (first | refine xst ?_ | refine xar ?_ | refine xop ?_ | refine xlen ?_ | refine xld rfl ?_ | refine xsto rfl ?_ | refine xno ?_ | refine xt ?_ | refine xf ?_ | refine xnu ?_)
    refine xcall (num_spec q a2 c2 1 c 0 4 (by omega) (by omega) (by omega) (by omega) hcap) ?_
    rintro v H ⟨rfl, rfl⟩
    refine G.app ?_
    refine xrep 0 [.slice a2 c.length c2, .int .i64 ((5 : Nat) : Int), .int .i64 0] rfl (rn 1 4 (by omega)).1 ?_
    repeat (refine xnot 25 ?_; first | refine xst ?_ | refine xar ?_ | refine xop ?_ | refine xlen ?_ | refine xld rfl ?_ | refine xsto rfl ?_ | refine xno ?_ | refine xt ?_ | refine xf ?_ | refine xnu ?_)
    refine xE 25 (wV g) rfl (wE (by rw [(rn 1 4 (by omega)).2, hg]; exact w_wrap _)) ?_
    repeat (first | refine xst ?_ | refine xar ?_ | refine xop ?_ | refine xlen ?_ | refine xld rfl ?_ | refine xsto rfl ?_ | refine xno ?_ | refine xt ?_ | refine xf ?_ | refine xnu ?_)
    refine xcall (num_spec q a2 c2 5 c 0 1 (by omega) (by omega) (by omega) (by omega) hcap) ?_
    rintro v H ⟨rfl, rfl⟩
    refine G.app ?_
    refine xrep 0 [.slice a2 c.length c2, .int .i64 ((6 : Nat) : Int), .int .i64 0] rfl (rn 5 1 (by omega)).1 ?_
    repeat (refine xnot 28 ?_; first | refine xst ?_ | refine xar ?_ | refine xop ?_ | refine xlen ?_ | refine xld rfl ?_ | refine xsto rfl ?_ | refine xno ?_ | refine xt ?_ | refine xf ?_ | refine xnu ?_)
    refine xE 28 (.int .i64 (n : Int)) rfl (congrArg (Value.int .i64) (by rw [(rn 5 1 (by omega)).2, hn]; exact wrap_nat (by have := lt1 5; omega))) ?_
    repeat (refine xnot 30 ?_; first | refine xst ?_ | refine xar ?_ | refine xop ?_ | refine xlen ?_ | refine xld rfl ?_ | refine xsto rfl ?_ | refine xno ?_ | refine xt ?_ | refine xf ?_ | refine xnu ?_)
    by_cases h1 : (g.toNat : Int) < 1
    · refine xE 30 (.bool true) rfl (congrArg Value.bool (decide_eq_true h1)) ?_
      repeat (first | refine xst ?_ | refine xar ?_ | refine xop ?_ | refine xlen ?_ | refine xld rfl ?_ | refine xsto rfl ?_ | refine xno ?_ | refine xt ?_ | refine xf ?_ | refine xnu ?_)
      refine xretp [] ?_
      exact ⟨rfl, 0, 0, false, rfl, (fun h => Bool.noConfusion h), fun _ => by rw [hF, if_neg (by omega)]⟩
    refine xE 30 (.bool false) rfl (congrArg Value.bool (decide_eq_false h1)) ?_
    repeat (refine xnot 33 ?_; first | refine xst ?_ | refine xar ?_ | refine xop ?_ | refine xlen ?_ | refine xld rfl ?_ | refine xsto rfl ?_ | refine xno ?_ | refine xt ?_ | refine xf ?_ | refine xnu ?_)
    refine xE 33 (.int .u32 ((g.toNat % 2 : Nat) : Int)) rfl (congrArg (Value.int .u32) (tmodN _ _)) ?_
    repeat (refine xnot 34 ?_; first | refine xst ?_ | refine xar ?_ | refine xop ?_ | refine xlen ?_ | refine xld rfl ?_ | refine xsto rfl ?_ | refine xno ?_ | refine xt ?_ | refine xf ?_ | refine xnu ?_)
    refine xE 34 (.int .i64 ((g.toNat % 2 : Nat) : Int)) rfl (by first | rfl | exact congrArg (Value.int .i64) (wrap_nat (by omega))) ?_
    repeat (refine xnot 36 ?_; first | refine xst ?_ | refine xar ?_ | refine xop ?_ | refine xlen ?_ | refine xld rfl ?_ | refine xsto rfl ?_ | refine xno ?_ | refine xt ?_ | refine xf ?_ | refine xnu ?_)
    by_cases h2 : ((g.toNat % 2 : Nat) : Int) ≠ (at_ : Int)
    · refine xE 36 (.bool true) rfl (congrArg Value.bool (decide_eq_true h2)) ?_
      repeat (first | refine xst ?_ | refine xar ?_ | refine xop ?_ | refine xlen ?_ | refine xld rfl ?_ | refine xsto rfl ?_ | refine xno ?_ | refine xt ?_ | refine xf ?_ | refine xnu ?_)
      refine xretp [] ?_
      exact ⟨rfl, 0, 0, false, rfl, (fun h => Bool.noConfusion h), fun _ => by rw [hF, if_neg (by omega)]⟩
    refine xE 36 (.bool false) rfl (congrArg Value.bool (decide_eq_false h2)) ?_
    repeat (refine xnot 40 ?_; first | refine xst ?_ | refine xar ?_ | refine xop ?_ | refine xlen ?_ | refine xld rfl ?_ | refine xsto rfl ?_ | refine xno ?_ | refine xt ?_ | refine xf ?_ | refine xnu ?_)
    by_cases h3 : (2 : Int) ≤ (n : Int)
    · refine xE 40 (.bool true) rfl (congrArg Value.bool (decide_eq_true h3)) ?_
      repeat (first | refine xst ?_ | refine xar ?_ | refine xop ?_ | refine xlen ?_ | refine xld rfl ?_ | refine xsto rfl ?_ | refine xno ?_ | refine xt ?_ | refine xf ?_ | refine xnu ?_)
      refine xretp [] ?_
      exact ⟨rfl, 0, 0, false, rfl, (fun h => Bool.noConfusion h), fun _ => by rw [hF, if_neg (by omega)]⟩
    refine xE 40 (.bool false) rfl (congrArg Value.bool (decide_eq_false h3)) ?_
    repeat (first | refine xst ?_ | refine xar ?_ | refine xop ?_ | refine xlen ?_ | refine xld rfl ?_ | refine xsto rfl ?_ | refine xno ?_ | refine xt ?_ | refine xf ?_ | refine xnu ?_)
    refine xcall (headS_spec g n (by omega)) ?_
    rintro v H ⟨a3, c3, rfl, rfl⟩
    refine G.app ?_
    repeat (first | refine xst ?_ | refine xar ?_ | refine xop ?_ | refine xlen ?_ | refine xld rfl ?_ | refine xsto rfl ?_ | refine xno ?_ | refine xt ?_ | refine xf ?_ | refine xnu ?_)
    refine xcall (equal_spec a3 (headB g n).length c3 (headB g n) a m cap b) ?_
    rintro v H ⟨rfl, rfl⟩
    refine G.app ?_
    repeat (first | refine xst ?_ | refine xar ?_ | refine xop ?_ | refine xlen ?_ | refine xld rfl ?_ | refine xsto rfl ?_ | refine xno ?_ | refine xt ?_ | refine xf ?_ | refine xnu ?_)
    refine xretp [] ?_
    refine ⟨rfl, g, n, decide (headB g n = b), rfl, fun h => ?_, fun h => ?_⟩
    · rw [hF, if_pos ⟨by omega, by omega, by omega, of_decide_eq_true h⟩]
    · rw [hF, if_neg (fun h' => of_decide_eq_false h h'.2.2.2)]

theorem manifest_spec (g : UInt32) (a : Option Addr) (m cap : Nat) (b : List UInt8) (hm : m = b.length) (h64 : b.length = 64) (hc : m ≤ cap) : Fun Tryz.prog 75 [wV g, .slice a m cap] [gNib, gErr, slR 1 a m cap (bsV b)] []
    fun v H => H = [] ∧ ∃ (mf : Man) (ok : Bool), mf.sum.length = 32 ∧ v = .tuple #[.agg mf.v.toArray, .bool ok] ∧ (ok = true → mf.ok = true ∧ firstB g mf = b) ∧ (ok = false → ∀ m' : Man, m'.sum.length = 32 → m'.ok = true → firstB g m' ≠ b) := by
  refine xenter (p := pg) Tryz.call75 Tryz.func75 fun C => ?_
  haveI : RP C gNib := RP.of C (by simp)
  haveI : RP C gErr := RP.of C (by simp)
  haveI hb := RP.slR (RP.of C (X := slR 1 a m cap (bsV b)) (by simp))
  refine xst ?_
  refine xst ?_
  refine xnew fun rb => ?_
  refine xrep 0 man0.v rfl rfl ?_
  repeat (first | refine xst ?_ | refine xar ?_ | refine xop ?_ | refine xlen ?_ | refine xld rfl ?_ | refine xsto rfl ?_ | refine xno ?_ | refine xt ?_ | refine xf ?_ | refine xnu ?_)
  refine xcall (open_spec a m cap b hm (by omega) hc) ?_
  rintro v H h
  cases ho : openF b with
  | none =>
    have he : ∀ m' : Man, m'.sum.length = 32 → m'.ok = true → firstB g m' ≠ b := fun m' _ _ e => by
      have := open_secB 73 g (encM m')
      rw [show secB 73 g (encM m') = b from e, ho] at this; cases this
    rw [ho] at h
    obtain ⟨e, hne, rfl, rfl⟩ := h
    refine G.app ?_
    repeat (first | refine xst ?_ | refine xar ?_ | refine xop ?_ | refine xlen ?_ | refine xld rfl ?_ | refine xsto rfl ?_ | refine xno ?_ | refine xt ?_ | refine xf ?_ | refine xnu ?_)
    refine xd (q := e ≠ 0) (fun h => ?_) (fun h => absurd hne h)
    repeat (refine xnot 18 ?_; first | refine xst ?_ | refine xar ?_ | refine xop ?_ | refine xlen ?_ | refine xld rfl ?_ | refine xsto rfl ?_ | refine xno ?_ | refine xt ?_ | refine xf ?_ | refine xnu ?_)
    refine xE 18 (.agg man0.v.toArray) rfl rfl ?_
    refine xsta (cs := man0.v) rfl rfl man0.v_one man0.v (put_all (by rfl)) (by exact Nat.le_of_ble_eq_true rfl) ?_
    repeat (first | refine xst ?_ | refine xar ?_ | refine xop ?_ | refine xlen ?_ | refine xld rfl ?_ | refine xsto rfl ?_ | refine xno ?_ | refine xt ?_ | refine xf ?_ | refine xnu ?_)
    refine xretm [] rfl (.c (.t .nil) rfl rfl (partF_all rfl (Man.v_len (m := man0) rfl))) ?_
    exact ⟨rfl, man0, false, rfl, rfl, (fun h => Bool.noConfusion h), fun _ => he⟩
  | some c =>
    rw [ho] at h
    obtain ⟨a1, c1, rfl, rfl⟩ := h
    have hbc := openF_some ho
    have hcl : c.length = 60 := by have := congrArg List.length hbc; rw [sealF_len] at this; omega
    refine G.app ?_
    repeat (first | refine xst ?_ | refine xar ?_ | refine xop ?_ | refine xlen ?_ | refine xld rfl ?_ | refine xsto rfl ?_ | refine xno ?_ | refine xt ?_ | refine xf ?_ | refine xnu ?_)
    refine xcall (read_spec a1 c.length c1 c rfl (by omega)) ?_
    rintro v H ⟨q, a2, c2, rfl, hcap, rfl⟩
    refine G.app ?_
    have rn : ∀ (at_ k : Nat), at_ + k ≤ 60 → rdV a2 c.length c2 (rdR c at_ 0 k) = [.slice a2 c.length c2, .int .i64 ((at_ + k : Nat) : Int), .int .i64 0] ∧ rdX c at_ 0 k = (c.drop at_).take k := fun at_ k h => by
      obtain ⟨h1, h2⟩ := rd_go (bs := c) (at_ := at_) (n := k) (by omega)
      rw [h1, h2]; exact ⟨rfl, rfl⟩
    obtain ⟨enc, henc⟩ : ∃ e, e = (c.drop 5).take 40 := ⟨_, rfl⟩
    have hel : enc.length = 40 := by rw [henc, List.length_take, List.length_drop]; omega
    have hother : ∀ m' : Man, m'.sum.length = 32 → m'.ok = true → firstB g m' = b → encM m' = enc := fun m' hs' hok' e => by
      have h1 := open_secB 73 g (encM m')
      rw [show secB 73 g (encM m') = b from e, ho] at h1
      have h2 : c = pad60 (secR 73 g (encM m')) := Option.some.inj h1
      rw [henc, h2]
      show _ = List.take 40 (encM m' ++ _)
      rw [List.take_append_of_le_length (by rw [enc_len hs' hok']; decide), List.take_of_length_le (by rw [enc_len hs' hok']; decide)]
    repeat (first | refine xst ?_ | refine xar ?_ | refine xop ?_ | refine xlen ?_ | refine xld rfl ?_ | refine xsto rfl ?_ | refine xno ?_ | refine xt ?_ | refine xf ?_ | refine xnu ?_)
    refine xcall (num_spec q a2 c2 0 c 0 1 (by omega) (by omega) (by omega) (by omega) hcap) ?_
    rintro v H ⟨rfl, rfl⟩
    refine G.app ?_
    refine xrep 0 [.slice a2 c.length c2, .int .i64 ((1 : Nat) : Int), .int .i64 0] rfl (rn 0 1 (by omega)).1 ?_
    repeat (first | refine xst ?_ | refine xar ?_ | refine xop ?_ | refine xlen ?_ | refine xld rfl ?_ | refine xsto rfl ?_ | refine xno ?_ | refine xt ?_ | refine xf ?_ | refine xnu ?_)
    refine xcall (num_spec q a2 c2 1 c 0 4 (by omega) (by omega) (by omega) (by omega) hcap) ?_
    rintro v H ⟨rfl, rfl⟩
    refine G.app ?_
    refine xrep 0 [.slice a2 c.length c2, .int .i64 ((5 : Nat) : Int), .int .i64 0] rfl (rn 1 4 (by omega)).1 ?_
    repeat (first | refine xst ?_ | refine xar ?_ | refine xop ?_ | refine xlen ?_ | refine xld rfl ?_ | refine xsto rfl ?_ | refine xno ?_ | refine xt ?_ | refine xf ?_ | refine xnu ?_)
    refine xcall (bytes_spec q a2 c2 5 c 0 40 (by omega) (by omega) (by omega) hcap) ?_
    rintro v H ⟨a3, c3, rfl, rfl⟩
    refine G.app ?_
    refine xE 27 (.slice a3 enc.length c3) rfl (by rw [(rn 5 40 (by omega)).2, henc]) ?_
    refine xreH 0 (sl 1 a3 enc.length c3 (bsV enc)) rfl (by rw [(rn 5 40 (by omega)).2, henc]) ?_
    refine xcall (decodeM_spec a3 enc.length c3 enc rfl (by omega)) ?_
    rintro v H ⟨mf, l, e, hms, rfl, hoe, rfl, hdec⟩
    refine G.app ?_
    have hml := Man.v_len hms
    repeat (first | refine xst ?_ | refine xar ?_ | refine xop ?_ | refine xlen ?_ | refine xld rfl ?_ | refine xsto rfl ?_ | refine xno ?_ | refine xt ?_ | refine xf ?_ | refine xnu ?_)
    refine xnew fun b9 => ?_
    refine xsta (cs := mf.v) rfl hml mf.v_one mf.v (put_all (by rw [hml]; rfl)) (by rw [hml]; exact Nat.le_of_ble_eq_true rfl) ?_
    rcases hdec with ⟨rfl, hok, hE⟩ | ⟨hne, rfl, hno⟩
    · refine G.fact (chain [] e) (P := e = .nilIface) (fun w F h => h) fun h => ?_
      subst h
      repeat (first | refine xst ?_ | refine xar ?_ | refine xop ?_ | refine xlen ?_ | refine xld rfl ?_ | refine xsto rfl ?_ | refine xno ?_ | refine xt ?_ | refine xf ?_ | refine xnu ?_)
      refine xld rfl ?_ (hv := partF_all rfl hml)
      refine xcall (firstS_spec g mf hms) ?_
      rintro v H ⟨a4, c4, rfl, rfl⟩
      refine G.app ?_
      repeat (first | refine xst ?_ | refine xar ?_ | refine xop ?_ | refine xlen ?_ | refine xld rfl ?_ | refine xsto rfl ?_ | refine xno ?_ | refine xt ?_ | refine xf ?_ | refine xnu ?_)
      refine xcall (equal_spec a4 (firstB g mf).length c4 (firstB g mf) a m cap b) ?_
      rintro v H ⟨rfl, rfl⟩
      refine G.app ?_
      by_cases he : firstB g mf = b
      · refine xE 38 (.bool true) rfl (congrArg Value.bool (decide_eq_true he)) ?_
        repeat (first | refine xst ?_ | refine xar ?_ | refine xop ?_ | refine xlen ?_ | refine xld rfl ?_ | refine xsto rfl ?_ | refine xno ?_ | refine xt ?_ | refine xf ?_ | refine xnu ?_)
        refine xld rfl ?_ (hv := partF_all rfl hml)
        refine xsta (cs := mf.v) rfl hml mf.v_one mf.v (put_all (by rw [hml]; rfl)) (by rw [show man0.v.length = 35 from rfl, hml]; exact Nat.le_of_ble_eq_true rfl) ?_
        repeat (first | refine xst ?_ | refine xar ?_ | refine xop ?_ | refine xlen ?_ | refine xld rfl ?_ | refine xsto rfl ?_ | refine xno ?_ | refine xt ?_ | refine xf ?_ | refine xnu ?_)
        refine xretm [] rfl (.c (.t .nil) rfl rfl (partF_all rfl hml)) ?_
        exact ⟨rfl, mf, true, hms, rfl, fun _ => ⟨hok, he⟩, (fun h => Bool.noConfusion h)⟩
      · refine xE 38 (.bool false) rfl (congrArg Value.bool (decide_eq_false he)) ?_
        repeat (refine xnot 41 ?_; first | refine xst ?_ | refine xar ?_ | refine xop ?_ | refine xlen ?_ | refine xld rfl ?_ | refine xsto rfl ?_ | refine xno ?_ | refine xt ?_ | refine xf ?_ | refine xnu ?_)
        refine xE 41 (.agg man0.v.toArray) rfl rfl ?_
        refine xsta (cs := man0.v) rfl rfl man0.v_one man0.v (put_all (by rfl)) (by exact Nat.le_of_ble_eq_true rfl) ?_
        repeat (first | refine xst ?_ | refine xar ?_ | refine xop ?_ | refine xlen ?_ | refine xld rfl ?_ | refine xsto rfl ?_ | refine xno ?_ | refine xt ?_ | refine xf ?_ | refine xnu ?_)
        refine xretm [] rfl (.c (.t .nil) rfl rfl (partF_all rfl (Man.v_len (m := man0) rfl))) ?_
        refine ⟨rfl, man0, false, rfl, rfl, (fun h => Bool.noConfusion h), fun _ m' hs' hok' e' => he ?_⟩
        rw [← e']
        unfold firstB
        rw [hE, hother m' hs' hok' e']
    · obtain ⟨qc, r, rfl⟩ : ∃ qc r, l = qc :: r := by cases l with
        | nil => exact absurd rfl hne
        | cons x r => exact ⟨x, r, rfl⟩
      obtain ⟨cc, xx⟩ := qc
      refine G.fact (chain ((cc, xx) :: r) e) (P := ∃ b : Nat, e = .iface 179 (.pointer (some ⟨b, 0, none⟩))) (fun w F h => by obtain ⟨b, u, F1, F2, ⟨h1, h2⟩, _⟩ := h; exact ⟨b, h1⟩) fun h => ?_
      obtain ⟨eb, rfl⟩ := h
      repeat (refine xnot 41 ?_; first | refine xst ?_ | refine xar ?_ | refine xop ?_ | refine xlen ?_ | refine xld rfl ?_ | refine xsto rfl ?_ | refine xno ?_ | refine xt ?_ | refine xf ?_ | refine xnu ?_)
      refine xE 41 (.agg man0.v.toArray) rfl rfl ?_
      refine xsta (cs := man0.v) rfl rfl man0.v_one man0.v (put_all (by rfl)) (by exact Nat.le_of_ble_eq_true rfl) ?_
      repeat (first | refine xst ?_ | refine xar ?_ | refine xop ?_ | refine xlen ?_ | refine xld rfl ?_ | refine xsto rfl ?_ | refine xno ?_ | refine xt ?_ | refine xf ?_ | refine xnu ?_)
      refine xretm [] rfl (.c (.t .nil) rfl rfl (partF_all rfl (Man.v_len (m := man0) rfl))) ?_
      exact ⟨rfl, man0, false, rfl, rfl, (fun h => Bool.noConfusion h), fun _ m' hs' hok' e' => hno m' hs' hok' (hother m' hs' hok' e')⟩

theorem piece_spec (g : UInt32) (k : Nat) (hk : k < 1000) (n : Nat) (hn : n ≤ 54) (a : Option Addr) (m cap : Nat) (b : List UInt8) (hm : m = b.length) (h64 : b.length = 64) (hc : m ≤ cap) : Fun Tryz.prog 76 [wV g, .int .i64 (k : Int), .int .i64 (n : Int), .slice a m cap] [gNib, slR 1 a m cap (bsV b)] []
    fun v H => (∃ (p : List UInt8) (a' : Option Addr) (cap' : Nat), p.length = n ∧ dataB g k p = b ∧ v = .tuple #[.slice a' n cap', .bool true] ∧ H = [sl 1 a' n cap' (bsV p)]) ∨ (∃ (a' : Option Addr) (n' cap' : Nat), v = .tuple #[.slice a' n' cap', .bool false] ∧ H = [] ∧ ∀ p : List UInt8, p.length = n → dataB g k p ≠ b) := by
  refine xenter (p := pg) Tryz.call76 Tryz.func76 fun C => ?_
  haveI : RP C gNib := RP.of C (by simp)
  haveI hb := RP.slR (RP.of C (X := slR 1 a m cap (bsV b)) (by simp))
  repeat (first | refine xst ?_ | refine xar ?_ | refine xop ?_ | refine xlen ?_ | refine xld rfl ?_ | refine xsto rfl ?_ | refine xno ?_ | refine xt ?_ | refine xf ?_ | refine xnu ?_)
  refine xcall (open_spec a m cap b hm (by omega) hc) ?_
  rintro v H h
  cases ho : openF b with
  | none =>
    have he : ∀ p : List UInt8, p.length = n → dataB g k p ≠ b := fun p _ e => by
      have := open_secB 68 g (putB k 1 ++ p)
      rw [show secB 68 g (putB k 1 ++ p) = b from e, ho] at this; cases this
    rw [ho] at h
    obtain ⟨e, hne, rfl, rfl⟩ := h
    refine G.app ?_
    repeat (first | refine xst ?_ | refine xar ?_ | refine xop ?_ | refine xlen ?_ | refine xld rfl ?_ | refine xsto rfl ?_ | refine xno ?_ | refine xt ?_ | refine xf ?_ | refine xnu ?_)
    refine xd (q := e ≠ 0) (fun h => ?_) (fun h => absurd hne h)
    repeat (first | refine xst ?_ | refine xar ?_ | refine xop ?_ | refine xlen ?_ | refine xld rfl ?_ | refine xsto rfl ?_ | refine xno ?_ | refine xt ?_ | refine xf ?_ | refine xnu ?_)
    refine xretp [] ?_
    exact .inr ⟨none, 0, 0, rfl, rfl, he⟩
  | some c =>
    rw [ho] at h
    obtain ⟨a1, c1, rfl, rfl⟩ := h
    have hbc := openF_some ho
    have hcl : c.length = 60 := by have := congrArg List.length hbc; rw [sealF_len] at this; omega
    refine G.app ?_
    repeat (first | refine xst ?_ | refine xar ?_ | refine xop ?_ | refine xlen ?_ | refine xld rfl ?_ | refine xsto rfl ?_ | refine xno ?_ | refine xt ?_ | refine xf ?_ | refine xnu ?_)
    refine xcall (read_spec a1 c.length c1 c rfl (by omega)) ?_
    rintro v H ⟨q, a2, c2, rfl, hcap, rfl⟩
    refine G.app ?_
    have rn : ∀ (at_ k : Nat), at_ + k ≤ 60 → rdV a2 c.length c2 (rdR c at_ 0 k) = [.slice a2 c.length c2, .int .i64 ((at_ + k : Nat) : Int), .int .i64 0] ∧ rdX c at_ 0 k = (c.drop at_).take k := fun at_ k h => by
      obtain ⟨h1, h2⟩ := rd_go (bs := c) (at_ := at_) (n := k) (by omega)
      rw [h1, h2]; exact ⟨rfl, rfl⟩
    obtain ⟨p, hp⟩ : ∃ e, e = (c.drop 6).take n := ⟨_, rfl⟩
    have hpl : p.length = n := by rw [hp, List.length_take, List.length_drop]; omega
    have hother : ∀ p' : List UInt8, p'.length = n → dataB g k p' = b → p' = p := fun p' hl e => by
      have h1 := open_secB 68 g (putB k 1 ++ p')
      rw [show secB 68 g (putB k 1 ++ p') = b from e, ho] at h1
      have h2 : c = pad60 (secR 68 g (putB k 1 ++ p')) := Option.some.inj h1
      rw [hp, h2]
      show _ = List.take n (p' ++ _)
      rw [List.take_append_of_le_length (by omega), List.take_of_length_le (by omega)]
    repeat (first | refine xst ?_ | refine xar ?_ | refine xop ?_ | refine xlen ?_ | refine xld rfl ?_ | refine xsto rfl ?_ | refine xno ?_ | refine xt ?_ | refine xf ?_ | refine xnu ?_)
    refine xcall (num_spec q a2 c2 0 c 0 1 (by omega) (by omega) (by omega) (by omega) hcap) ?_
    rintro v H ⟨rfl, rfl⟩
    refine G.app ?_
    refine xrep 0 [.slice a2 c.length c2, .int .i64 ((1 : Nat) : Int), .int .i64 0] rfl (rn 0 1 (by omega)).1 ?_
    repeat (first | refine xst ?_ | refine xar ?_ | refine xop ?_ | refine xlen ?_ | refine xld rfl ?_ | refine xsto rfl ?_ | refine xno ?_ | refine xt ?_ | refine xf ?_ | refine xnu ?_)
    refine xcall (num_spec q a2 c2 1 c 0 4 (by omega) (by omega) (by omega) (by omega) hcap) ?_
    rintro v H ⟨rfl, rfl⟩
    refine G.app ?_
    refine xrep 0 [.slice a2 c.length c2, .int .i64 ((5 : Nat) : Int), .int .i64 0] rfl (rn 1 4 (by omega)).1 ?_
    repeat (first | refine xst ?_ | refine xar ?_ | refine xop ?_ | refine xlen ?_ | refine xld rfl ?_ | refine xsto rfl ?_ | refine xno ?_ | refine xt ?_ | refine xf ?_ | refine xnu ?_)
    refine xcall (num_spec q a2 c2 5 c 0 1 (by omega) (by omega) (by omega) (by omega) hcap) ?_
    rintro v H ⟨rfl, rfl⟩
    refine G.app ?_
    refine xrep 0 [.slice a2 c.length c2, .int .i64 ((6 : Nat) : Int), .int .i64 0] rfl (rn 5 1 (by omega)).1 ?_
    repeat (first | refine xst ?_ | refine xar ?_ | refine xop ?_ | refine xlen ?_ | refine xld rfl ?_ | refine xsto rfl ?_ | refine xno ?_ | refine xt ?_ | refine xf ?_ | refine xnu ?_)
    refine xcall (bytes_spec q a2 c2 6 c 0 n (by omega) (by omega) (by omega) hcap) ?_
    rintro v H ⟨a3, c3, rfl, rfl⟩
    refine G.app ?_
    refine xE 31 (.slice a3 n c3) rfl (by rw [(rn 6 n (by omega)).2, ← hp, hpl]) ?_
    refine xreH 0 (sl 1 a3 n c3 (bsV p)) rfl (by rw [(rn 6 n (by omega)).2, ← hp, hpl]) ?_
    repeat (first | refine xst ?_ | refine xar ?_ | refine xop ?_ | refine xlen ?_ | refine xld rfl ?_ | refine xsto rfl ?_ | refine xno ?_ | refine xt ?_ | refine xf ?_ | refine xnu ?_)
    refine xcall (dataS_spec g k hk a3 n c3 p hpl.symm hn) ?_
    rintro v H ⟨a4, c4, rfl, rfl⟩
    refine G.app ?_
    repeat (first | refine xst ?_ | refine xar ?_ | refine xop ?_ | refine xlen ?_ | refine xld rfl ?_ | refine xsto rfl ?_ | refine xno ?_ | refine xt ?_ | refine xf ?_ | refine xnu ?_)
    refine xcall (equal_spec a4 (dataB g k p).length c4 (dataB g k p) a m cap b) ?_
    rintro v H ⟨rfl, rfl⟩
    refine G.app ?_
    by_cases he : dataB g k p = b
    · refine xE 38 (.bool true) rfl (congrArg Value.bool (decide_eq_true he)) ?_
      repeat (first | refine xst ?_ | refine xar ?_ | refine xop ?_ | refine xlen ?_ | refine xld rfl ?_ | refine xsto rfl ?_ | refine xno ?_ | refine xt ?_ | refine xf ?_ | refine xnu ?_)
      refine xretp [1] ?_
      exact .inl ⟨p, a3, c3, hpl, he, rfl, rfl⟩
    · refine xE 38 (.bool false) rfl (congrArg Value.bool (decide_eq_false he)) ?_
      repeat (first | refine xst ?_ | refine xar ?_ | refine xop ?_ | refine xlen ?_ | refine xld rfl ?_ | refine xsto rfl ?_ | refine xno ?_ | refine xt ?_ | refine xf ?_ | refine xnu ?_)
      refine xretp [] ?_
      exact .inr ⟨a3, n, c3, rfl, rfl, fun p' hl e => he (by rw [← e, hother p' hl e])⟩
end Go.Proofs.YtdalmiacjicgpaaGreatDoor
