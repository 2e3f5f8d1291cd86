/- Part of the proof: LKo, LKp, LKq, LKr, LMs, LMt -/
import Derived.Test.YtdalmiacjicgpaaGreatDoorK10
/- loader: Active, Generation, Entries, Begin, Chunk. -/
namespace Go.Proofs.YtdalmiacjicgpaaGreatDoor
open Go.W

def actH (q : Rg) (v : Value) (H : List HProp) : Prop := ∃ a c, v = .tuple #[.slice a q.img.length c, wV q.ver, .bool true] ∧ H = [sl 1 a q.img.length c (bsV q.img)]
def actN : Value := .tuple #[.slice none 0 0, wV 0, .bool false]
def actQ (M : Ld) (o : Option Nat) : Post := fun v H => match o with
  | some p => if (M.r p).has = true then actH (M.r p) v H else v = actN ∧ H = []
  | none => v = actN ∧ H = []
def genQ (M : Ld) (o : Option Nat) : UInt32 := match o with | some p => (M.r p).gen | none => 0
theorem active_spec (l d : Nat) (M : Ld) (ok : M.ok) (k : Int) (o : Option Nat) (hk : pnF k = o) : Fun Tryz.prog 17 [.pointer (some ⟨l, 0, none⟩), .int .i64 k] [loaderH l d M] []
    (actQ M o) := by
  refine xenter (p := pg) Tryz.call17 Tryz.func17 fun C => ?_
  cases o with
  | none =>
    obtain ⟨rb, lp, s2, sp, pre, post, A, hpre, h1, h2, h3, h4⟩ := ld_rd (RP.of C (X := loaderH l d M) (by simp)) ok 0 (by decide)
    repeat (first | refine xst ?_ | refine xar ?_ | refine xop ?_ | refine xlen ?_ | refine xld rfl ?_ | refine xsto rfl ?_ | refine xno ?_ | refine xt ?_ | refine xf ?_ | refine xnu ?_)
    refine xcall (region_spec l rb lp M.dead k none hk) ?_
    rintro v H ⟨rfl, rfl⟩
    refine G.app ?_
    refine xE 10 (.pointer none) rfl rfl ?_
    repeat (first | refine xst ?_ | refine xar ?_ | refine xop ?_ | refine xlen ?_ | refine xld rfl ?_ | refine xsto rfl ?_ | refine xno ?_ | refine xt ?_ | refine xf ?_ | refine xnu ?_)
    exact xret [] ⟨rfl, rfl⟩
  | some p =>
    obtain ⟨hp, rfl⟩ := pn_some hk
    obtain ⟨rb, lp, s2, sp, pre, post, A, hpre, h1, h2, h3, h4⟩ := ld_rd (RP.of C (X := loaderH l d M) (by simp)) ok p hp
    obtain ⟨q, hq⟩ : ∃ q, M.r p = q := ⟨_, rfl⟩
    have hqok := ok.r p
    rw [hq] at h2 h4 hqok
    obtain ⟨q1, q2, q3, q4⟩ := hqok
    repeat (first | refine xst ?_ | refine xar ?_ | refine xop ?_ | refine xlen ?_ | refine xld rfl ?_ | refine xsto rfl ?_ | refine xno ?_ | refine xt ?_ | refine xf ?_ | refine xnu ?_)
    refine xcall (region_spec l rb lp M.dead (p : Int) (some p) hk) ?_
    rintro v H ⟨rfl, rfl⟩
    refine G.app ?_
    refine xE 10 (.pointer (some ⟨rb, 43 * p, none⟩)) rfl rfl ?_
    obtain ⟨off, hoff⟩ : ∃ off, 43 * p = off := ⟨_, rfl⟩
    rw [hoff] at hpre ⊢
    repeat (first | refine xst ?_ | refine xar ?_ | refine xop ?_ | refine xlen ?_ | refine xld rfl ?_ | refine xsto rfl ?_ | refine xno ?_ | refine xt ?_ | refine xf ?_ | refine xnu ?_)
    refine xld rfl ?_ (hv := at_ld hpre rfl)
    cases hhas : q.has with
    | false =>
      repeat (first | refine xst ?_ | refine xar ?_ | refine xop ?_ | refine xlen ?_ | refine xld rfl ?_ | refine xsto rfl ?_ | refine xno ?_ | refine xt ?_ | refine xf ?_ | refine xnu ?_)
      refine xretp [] ?_
      show (if (M.r p).has = true then actH (M.r p) actN [] else actN = actN ∧ ([] : List HProp) = [])
      rw [hq, if_neg (by rw [hhas]; decide)]
      exact ⟨rfl, rfl⟩
    | true =>
      repeat (first | refine xst ?_ | refine xar ?_ | refine xop ?_ | refine xlen ?_ | refine xld rfl ?_ | refine xsto rfl ?_ | refine xno ?_ | refine xt ?_ | refine xf ?_ | refine xnu ?_)
      refine xdraw ?_
      refine xdop 0 ?_
      refine xdop 1 ?_
      refine xdop 2 ?_
      refine xdld 3 rfl rfl ?_ (hv := at_ld hpre rfl)
      refine xdop 5 ?_
      refine xdop 6 ?_
      refine xdop 7 ?_
      refine xdld 8 rfl rfl ?_ (hv := at_ld hpre rfl)
      refine xdact 4 ?_
      refine xcall (bclone_spec A.ia q.img.length A.ic q.img rfl q3) ?_
      rintro v H ⟨a, c, rfl, rfl⟩
      refine G.app ?_
      refine xst ?_
      refine xdop 9 ?_
      refine xdop 10 ?_
      refine xdop 11 ?_
      refine xdend ?_
      repeat (first | refine xst ?_ | refine xar ?_ | refine xop ?_ | refine xlen ?_ | refine xld rfl ?_ | refine xsto rfl ?_ | refine xno ?_ | refine xt ?_ | refine xf ?_ | refine xnu ?_)
      refine xretp [0] ?_
      show (if (M.r p).has = true then actH (M.r p) _ _ else _ = actN ∧ _ = [])
      rw [hq, if_pos hhas]
      exact ⟨a, c, rfl, rfl⟩
theorem generation_spec (l d : Nat) (M : Ld) (ok : M.ok) (k : Int) (o : Option Nat) (hk : pnF k = o) : Fun Tryz.prog 47 [.pointer (some ⟨l, 0, none⟩), .int .i64 k] [loaderH l d M] []
    fun v H => v = wV (genQ M o) ∧ H = [] := by
  refine xenter (p := pg) Tryz.call47 Tryz.func47 fun C => ?_
  cases o with
  | none =>
    obtain ⟨rb, lp, s2, sp, pre, post, A, hpre, h1, h2, h3, h4⟩ := ld_rd (RP.of C (X := loaderH l d M) (by simp)) ok 0 (by decide)
    repeat (first | refine xst ?_ | refine xar ?_ | refine xop ?_ | refine xlen ?_ | refine xld rfl ?_ | refine xsto rfl ?_ | refine xno ?_ | refine xt ?_ | refine xf ?_ | refine xnu ?_)
    refine xcall (region_spec l rb lp M.dead k none hk) ?_
    rintro v H ⟨rfl, rfl⟩
    refine G.app ?_
    refine xE 8 (.pointer none) rfl rfl ?_
    repeat (first | refine xst ?_ | refine xar ?_ | refine xop ?_ | refine xlen ?_ | refine xld rfl ?_ | refine xsto rfl ?_ | refine xno ?_ | refine xt ?_ | refine xf ?_ | refine xnu ?_)
    exact xret [] ⟨rfl, rfl⟩
  | some p =>
    obtain ⟨hp, rfl⟩ := pn_some hk
    obtain ⟨rb, lp, s2, sp, pre, post, A, hpre, h1, h2, h3, h4⟩ := ld_rd (RP.of C (X := loaderH l d M) (by simp)) ok p hp
    obtain ⟨q, hq⟩ : ∃ q, M.r p = q := ⟨_, rfl⟩
    rw [hq] at h2 h4
    repeat (first | refine xst ?_ | refine xar ?_ | refine xop ?_ | refine xlen ?_ | refine xld rfl ?_ | refine xsto rfl ?_ | refine xno ?_ | refine xt ?_ | refine xf ?_ | refine xnu ?_)
    refine xcall (region_spec l rb lp M.dead (p : Int) (some p) hk) ?_
    rintro v H ⟨rfl, rfl⟩
    refine G.app ?_
    refine xE 8 (.pointer (some ⟨rb, 43 * p, none⟩)) rfl rfl ?_
    obtain ⟨off, hoff⟩ : ∃ off, 43 * p = off := ⟨_, rfl⟩
    rw [hoff] at hpre ⊢
    repeat (first | refine xst ?_ | refine xar ?_ | refine xop ?_ | refine xlen ?_ | refine xld rfl ?_ | refine xsto rfl ?_ | refine xno ?_ | refine xt ?_ | refine xf ?_ | refine xnu ?_)
    refine xld rfl ?_ (hv := at_ld hpre rfl)
    repeat (first | refine xst ?_ | refine xar ?_ | refine xop ?_ | refine xlen ?_ | refine xld rfl ?_ | refine xsto rfl ?_ | refine xno ?_ | refine xt ?_ | refine xf ?_ | refine xnu ?_)
    refine xretp [] ?_
    show _ = wV (M.r p).gen ∧ _
    rw [hq]
    exact ⟨rfl, rfl⟩
theorem lentries_spec (l d : Nat) (M : Ld) (ok : M.ok) : Fun Tryz.prog 24 [.pointer (some ⟨l, 0, none⟩)] [loaderH l d M] [] fun v H => ∃ a' cap', v = .slice a' M.es.length cap' ∧ H = [sl 4 a' M.es.length cap' (ntrV M.es)] := by
  refine xenter (p := pg) Tryz.call24 Tryz.func24 fun C => ?_
  obtain ⟨rb, lp, s2, sp, pre, post, A, hpre, h1, h2, h3, h4⟩ := ld_rd (RP.of C (X := loaderH l d M) (by simp)) ok 0 (by decide)
  have := ok.es
  repeat (first | refine xst ?_ | refine xar ?_ | refine xop ?_ | refine xlen ?_ | refine xld rfl ?_ | refine xsto rfl ?_ | refine xno ?_ | refine xt ?_ | refine xf ?_ | refine xnu ?_)
  refine xcall (entries_spec lp s2 M.es M.ldead (by omega)) ?_
  rintro v H ⟨a', c', rfl, rfl⟩
  refine G.app ?_
  repeat (first | refine xst ?_ | refine xar ?_ | refine xop ?_ | refine xlen ?_ | refine xld rfl ?_ | refine xsto rfl ?_ | refine xno ?_ | refine xt ?_ | refine xf ?_ | refine xnu ?_)
  refine xretp [0] ?_
  exact ⟨a', c', rfl, rfl⟩

/-! ## Begin -/
def beginF (M : Ld) (m : Man) : Int × Ld :=
  if m.ok = true then match pnF m.part with
    | some p => if (M.r p).has = true ∧ m.ver.toNat ≤ (M.r p).ver.toNat then (4, M) else (0, M.set p { M.r p with staged := true, mf := m, got := [] })
    | none => (1, M)
  else (1, M)
theorem Ld.ok.set {M : Ld} (ok : M.ok) {p : Nat} {q : Rg} (hq : q.ok) (hg : q.got.length ≤ 5000) : (M.set p q).ok := by
  refine ⟨fun i => ?_, fun i => ?_, ok.es, ok.live⟩
  · unfold Ld.set; simp only; split
    · exact hq
    · exact ok.r i
  · unfold Ld.set; simp only; split
    · exact hg
    · exact ok.got i
theorem begin_ok {M : Ld} (ok : M.ok) {m : Man} (hs : m.sum.length = 32) : (beginF M m).2.ok := by
  unfold beginF
  split
  · split
    · split
      · exact ok
      · exact ok.set ⟨hs, (ok.r _).2.1, (ok.r _).2.2.1, Nat.zero_le _⟩ (Nat.zero_le _)
    · exact ok
  · exact ok
theorem ld_same {M : Ld} {p : Nat} : { M.set p (M.r p) with es := M.es, dead := M.dead, ldead := M.ldead } = M := by
  unfold Ld.set
  obtain ⟨r, es, dead, ldead⟩ := M
  simp only [Ld.mk.injEq, and_true]
  funext i
  split
  · rename_i h; rw [h]
  · rfl
theorem at_sta {pre v v' rest cs : List Value} {off j : Nat} (ho : pre.length = off) (hl : j + cs.length ≤ v.length) (h : v.take j ++ cs ++ v.drop (j + cs.length) = v') : (pre ++ (v ++ rest)).take (off + j) ++ cs ++ (pre ++ (v ++ rest)).drop (off + j + cs.length) = pre ++ (v' ++ rest) := by
  have h1 := at_st (rest := rest) ho hl h
  rw [putF_of (by subst ho; rw [List.length_append, List.length_append]; omega)] at h1
  exact Option.some.inj h1
theorem at_stl {pre v rest cs : List Value} {off j : Nat} (ho : pre.length = off) (hl : j + cs.length ≤ v.length) : off + j + cs.length ≤ (pre ++ (v ++ rest)).length := by subst ho; rw [List.length_append, List.length_append]; omega
theorem stg_put {v cs v' : List Value} (h1 : v.length = 43) (h2 : cs.length = 36) (h : v.take 7 ++ cs = v') : v.take 7 ++ cs ++ v.drop (7 + cs.length) = v' := by rw [List.drop_eq_nil_of_le (by omega), List.append_nil]; exact h
set_option maxHeartbeats 1000000 in
theorem lbegin_spec (l d : Nat) (M : Ld) (ok : M.ok) (m : Man) (hs : m.sum.length = 32) : Fun Tryz.prog 11 [.pointer (some ⟨l, 0, none⟩), .agg m.v.toArray] [] [loaderH l d M] fun v H => v = .int .i64 (beginF M m).1 ∧ H = [loaderH l d (beginF M m).2] := by
  refine xenter (p := pg) Tryz.call11 Tryz.func11 fun C => ?_
  have hml := Man.v_len hs
  refine xst ?_
  refine xst ?_
  refine xnew fun mb => ?_
  refine xrep 0 m.v rfl rfl ?_
  repeat (first | refine xst ?_ | refine xar ?_ | refine xop ?_ | refine xlen ?_ | refine xld rfl ?_ | refine xsto rfl ?_ | refine xno ?_ | refine xt ?_ | refine xf ?_ | refine xnu ?_)
  refine xld rfl ?_ (hv := partF_all rfl hml)
  refine xcall (begin_spec m hs) ?_
  rintro v H ⟨rfl, rfl⟩
  refine G.app ?_
  cases hmo : m.ok with
  | false =>
    refine xE 10 (.tuple #[.agg stg0.toArray, .int .i64 1]) rfl rfl ?_
    repeat (first | refine xst ?_ | refine xar ?_ | refine xop ?_ | refine xlen ?_ | refine xld rfl ?_ | refine xsto rfl ?_ | refine xno ?_ | refine xt ?_ | refine xf ?_ | refine xnu ?_)
    refine xnew fun sb => ?_
    refine xsta (cs := stg0) rfl rfl (stgV_one _ rfl) stg0 (put_all (by rfl)) (by exact Nat.le_of_ble_eq_true rfl) ?_
    repeat (first | refine xst ?_ | refine xar ?_ | refine xop ?_ | refine xlen ?_ | refine xld rfl ?_ | refine xsto rfl ?_ | refine xno ?_ | refine xt ?_ | refine xf ?_ | refine xnu ?_)
    refine xretp [2] ?_
    rw [show beginF M m = (1, M) by unfold beginF; rw [if_neg (by rw [hmo]; decide)]]
    exact ⟨rfl, rfl⟩
  | true =>
    have hsl := stgV_len hs (.slice none 0 0)
    refine xE 10 (.tuple #[.agg (stgV m (.slice none 0 0)).toArray, .int .i64 0]) rfl rfl ?_
    repeat (first | refine xst ?_ | refine xar ?_ | refine xop ?_ | refine xlen ?_ | refine xld rfl ?_ | refine xsto rfl ?_ | refine xno ?_ | refine xt ?_ | refine xf ?_ | refine xnu ?_)
    refine xnew fun sb => ?_
    refine xsta (cs := stgV m (.slice none 0 0)) rfl hsl (stgV_one m rfl) (stgV m (.slice none 0 0)) (put_all (by rw [hsl]; rfl)) (by rw [hsl]; exact Nat.le_of_ble_eq_true rfl) ?_
    obtain ⟨o, ho⟩ : ∃ o, pnF m.part = o := ⟨_, rfl⟩
    cases o with
    | none =>
      have hF : beginF M m = (1, M) := by unfold beginF; rw [if_pos hmo, ho]
      refine G.ld l d ok 0 (by decide) fun rb lp s2 off sp so pre post A qo Ao hoff hpre hqo hfold => ?_
      unfold ldF
      refine G.app ?_
      repeat (first | refine xst ?_ | refine xar ?_ | refine xop ?_ | refine xlen ?_ | refine xld rfl ?_ | refine xsto rfl ?_ | refine xno ?_ | refine xt ?_ | refine xf ?_ | refine xnu ?_)
      refine xcall (region_spec l rb lp M.dead m.part none ho) ?_
      rintro v H ⟨rfl, rfl⟩
      refine G.app ?_
      refine xE 19 (.pointer none) rfl rfl ?_
      repeat (first | refine xst ?_ | refine xar ?_ | refine xop ?_ | refine xlen ?_ | refine xld rfl ?_ | refine xsto rfl ?_ | refine xno ?_ | refine xt ?_ | refine xf ?_ | refine xnu ?_)
      refine xfold (loaderH l d M) [0, 0, 0, 0, 0, 0, 0, 0, 0, 0] rfl (fun w F h => by have := hfold (M.r 0) A M.es M.dead M.ldead w F h; rwa [ld_same] at this) ?_
      refine xretp [0] ?_
      rw [hF]
      exact ⟨rfl, rfl⟩
    | some p =>
      obtain ⟨hp, hpm⟩ := pn_some ho
      have hF : beginF M m = if (M.r p).has = true ∧ m.ver.toNat ≤ (M.r p).ver.toNat then (4, M) else (0, M.set p { M.r p with staged := true, mf := m, got := [] }) := by unfold beginF; rw [if_pos hmo, ho]
      refine G.ld l d ok p hp fun rb lp s2 off sp so pre post A qo Ao hoff hpre hqo hfold => ?_
      unfold ldF
      obtain ⟨q, hq⟩ : ∃ q, M.r p = q := ⟨_, rfl⟩
      have hqok := ok.r p
      rw [hq] at hqok hF ⊢
      refine G.app ?_
      repeat (first | refine xst ?_ | refine xar ?_ | refine xop ?_ | refine xlen ?_ | refine xld rfl ?_ | refine xsto rfl ?_ | refine xno ?_ | refine xt ?_ | refine xf ?_ | refine xnu ?_)
      have hsame : ∀ w F, Sat (ldF l d rb lp s2 p off sp so pre post q A qo Ao M.es M.dead M.ldead) w F → (loaderH l d M).holds w F := fun w F h => by
        have := hfold q A M.es M.dead M.ldead w F h
        rw [← hq, ld_same] at this; exact this
      refine xcall (region_spec l rb lp M.dead m.part (some p) ho) ?_
      rintro v H ⟨rfl, rfl⟩
      refine G.app ?_
      refine xE 19 (.pointer (some ⟨rb, off, none⟩)) rfl (by rw [hoff]; rfl) ?_
      repeat (first | refine xst ?_ | refine xar ?_ | refine xop ?_ | refine xlen ?_ | refine xld rfl ?_ | refine xsto rfl ?_ | refine xno ?_ | refine xt ?_ | refine xf ?_ | refine xnu ?_)
      have hput : ¬ (q.has = true ∧ m.ver.toNat ≤ q.ver.toNat) → beginF M m = (0, M.set p { q with staged := true, mf := m, got := [] }) := fun h => by rw [hF, if_neg h]
      refine G.cut (σ := Bool) (fun b => [(0, .pointer (some ⟨l, 0, none⟩)), (5, .pointer (some ⟨sb, 0, none⟩)), (7, .pointer (some ⟨rb, off, none⟩)), (34, .bool b)]) (fun b => [pts l (ldC rb lp M.dead), pts rb (pre ++ (Rg.v sp q A ++ post)), pts s2 (ptC 51 12 d), logH lp s2 M.es M.ldead, pts sp (ptC (3 + 24 * p) 24 d), sl 1 A.ia q.img.length A.ic (bsV q.img), sl 1 A.ga q.got.length A.gc (bsV q.got), pts so (ptC (27 - 24 * p) 24 d), sl 1 Ao.ia qo.img.length Ao.ic (bsV qo.img), sl 1 Ao.ga qo.got.length Ao.gc (bsV qo.got), pts sb (stgV m (.slice none 0 0))]) (fun b => b = decide (q.has = true ∧ m.ver.toNat ≤ q.ver.toNat)) ?_ ?_
      · rcases Bool.eq_false_or_eq_true q.has with hhas | hhas
        rotate_left
        · skip
          refine xdraw ?_
          refine xdop 0 ?_
          refine xdop 1 ?_
          refine xdop 2 ?_
          refine xdld 3 rfl rfl ?_ (hv := at_ld hpre rfl)
          refine xE 25 (.bool false) rfl (congrArg Value.bool hhas) ?_
          refine xdop 4 ?_
          (first | refine xdno 5 ?_ | refine xdop 5 ?_ | refine xdnu 5 ?_)
          (first | refine xdno 6 ?_ | refine xdld 6 rfl rfl ?_ | refine xdnu 6 ?_)
          (first | refine xdno 7 ?_ | refine xdop 7 ?_ | refine xdnu 7 ?_)
          (first | refine xdno 8 ?_ | refine xdop 8 ?_ | refine xdnu 8 ?_)
          (first | refine xdno 9 ?_ | refine xdop 9 ?_ | refine xdnu 9 ?_)
          (first | refine xdno 10 ?_ | refine xdld 10 rfl rfl ?_ | refine xdnu 10 ?_)
          (first | refine xdno 11 ?_ | refine xdop 11 ?_ | refine xdnu 11 ?_)
          refine xdop 12 ?_
          refine xdend ?_
          repeat (first | refine xst ?_ | refine xar ?_ | refine xop ?_ | refine xlen ?_ | refine xld rfl ?_ | refine xsto rfl ?_ | refine xno ?_ | refine xt ?_ | refine xf ?_ | refine xnu ?_)
          refine G.fin false (decide_eq_false (by rw [hhas]; rintro ⟨h, _⟩; cases h)).symm ⟨rfl, rfl, rfl, rfl, trivial⟩ ?_
          exact ent_pick
        · skip
          refine xdraw ?_
          refine xdop 0 ?_
          refine xdop 1 ?_
          refine xdop 2 ?_
          refine xdld 3 rfl rfl ?_ (hv := at_ld hpre rfl)
          refine xE 25 (.bool true) rfl (congrArg Value.bool hhas) ?_
          refine xdop 4 ?_
          (first | refine xdno 5 ?_ | refine xdop 5 ?_ | refine xdnu 5 ?_)
          (first | refine xdno 6 ?_ | refine xdld 6 rfl rfl ?_ | refine xdnu 6 ?_)
          (first | refine xdno 7 ?_ | refine xdop 7 ?_ | refine xdnu 7 ?_)
          (first | refine xdno 8 ?_ | refine xdop 8 ?_ | refine xdnu 8 ?_)
          (first | refine xdno 9 ?_ | refine xdop 9 ?_ | refine xdnu 9 ?_)
          refine xdld 10 rfl rfl ?_ (hv := at_ld hpre rfl)
          (first | refine xdno 11 ?_ | refine xdop 11 ?_ | refine xdnu 11 ?_)
          refine xdop 12 ?_
          refine xdend ?_
          repeat (first | refine xst ?_ | refine xar ?_ | refine xop ?_ | refine xlen ?_ | refine xld rfl ?_ | refine xsto rfl ?_ | refine xno ?_ | refine xt ?_ | refine xf ?_ | refine xnu ?_)
          refine xE 34 (.bool (decide (q.has = true ∧ m.ver.toNat ≤ q.ver.toNat))) rfl (congrArg Value.bool (decide_eq_decide.2 ⟨fun h => ⟨hhas, by omega⟩, fun h => by omega⟩)) ?_
          refine G.fin _ rfl ⟨rfl, rfl, rfl, rfl, trivial⟩ ?_
          exact ent_pick
      rintro b hI
      have hI : b = decide (q.has = true ∧ m.ver.toNat ≤ q.ver.toNat) := hI
      show G C _ [(0, .pointer (some ⟨l, 0, none⟩)), (5, .pointer (some ⟨sb, 0, none⟩)), (7, .pointer (some ⟨rb, off, none⟩)), (34, .bool b)] [pts l (ldC rb lp M.dead), pts rb (pre ++ (Rg.v sp q A ++ post)), pts s2 (ptC 51 12 d), logH lp s2 M.es M.ldead, pts sp (ptC (3 + 24 * p) 24 d), sl 1 A.ia q.img.length A.ic (bsV q.img), sl 1 A.ga q.got.length A.gc (bsV q.got), pts so (ptC (27 - 24 * p) 24 d), sl 1 Ao.ia qo.img.length Ao.ic (bsV qo.img), sl 1 Ao.ga qo.got.length Ao.gc (bsV qo.got), pts sb (stgV m (.slice none 0 0))]
      subst hI
      refine xd (q := q.has = true ∧ m.ver.toNat ≤ q.ver.toNat) (fun h => ?_) (fun h => ?_)
      · repeat (first | refine xst ?_ | refine xar ?_ | refine xop ?_ | refine xlen ?_ | refine xld rfl ?_ | refine xsto rfl ?_ | refine xno ?_ | refine xt ?_ | refine xf ?_ | refine xnu ?_)
        refine xfold (loaderH l d M) [0, 0, 0, 0, 0, 0, 0, 0, 0, 0] rfl hsame ?_
        refine xretp [0] ?_
        rw [hF, if_pos h]
        exact ⟨rfl, rfl⟩
      have hI := hput h
      obtain ⟨q1, hq1⟩ : ∃ z : Rg, z = { q with staged := true } := ⟨_, rfl⟩
      obtain ⟨q2, hq2⟩ : ∃ z : Rg, z = { q1 with mf := m, got := [] } := ⟨_, rfl⟩
      obtain ⟨A2, hA2⟩ : ∃ A2 : Ra, A2 = { A with ga := none, gc := 0 } := ⟨_, rfl⟩
      have l0 : (Rg.v sp q A).length = 43 := Rg.v_len hqok.1
      have l1 : (Rg.v sp q1 A).length = 43 := Rg.v_len (by rw [hq1]; exact hqok.1)
      repeat (first | refine xst ?_ | refine xar ?_ | refine xop ?_ | refine xlen ?_ | refine xld rfl ?_ | refine xsto rfl ?_ | refine xno ?_ | refine xt ?_ | refine xf ?_ | refine xnu ?_)
      refine xdraw ?_
      refine xdop 0 ?_
      refine xdop 1 ?_
      refine xdld 2 rfl rfl ?_ (hv := partF_all rfl hsl)
      refine xdop 3 ?_
      refine xdop 4 ?_
      refine xdact 5 ?_
      refine xsto rfl ?_ (hm := at_st (v' := Rg.v sp q1 A) hpre (by rw [l0]; exact Nat.le_of_ble_eq_true rfl) (by rw [hq1]; rfl))
      refine xst ?_
      refine xdop 6 ?_
      refine xdop 7 ?_
      refine xdact 8 ?_
      refine xsta (cs := stgV m (.slice none 0 0)) rfl hsl (stgV_one m rfl) (pre ++ (Rg.v sp q2 A2 ++ post)) (at_sta hpre (by rw [l1, hsl]; exact Nat.le_refl _) (stg_put l1 hsl (by rw [hq2, hA2]; rfl))) (at_stl hpre (by rw [l1, hsl]; exact Nat.le_refl _)) ?_
      refine xst ?_
      refine xdend ?_
      repeat (first | refine xst ?_ | refine xar ?_ | refine xop ?_ | refine xlen ?_ | refine xld rfl ?_ | refine xsto rfl ?_ | refine xno ?_ | refine xt ?_ | refine xf ?_ | refine xnu ?_)
      refine G.sln 1 ?_
      refine xreH 0 (sl 1 A2.ga q2.got.length A2.gc (bsV q2.got)) rfl (by rw [hq2, hA2]; rfl) ?_
      refine xreH 6 (sl 1 A2.ia q2.img.length A2.ic (bsV q2.img)) rfl (by rw [hq2, hq1, hA2]) ?_
      refine xfold (loaderH l d (M.set p q2)) [2, 2, 2, 2, 2, 0, 0, 1, 1, 1] rfl (fun w F h => hfold q2 A2 M.es M.dead M.ldead w F h) ?_
      refine xretp [0] ?_
      rw [hI, hq2, hq1]
      exact ⟨rfl, rfl⟩
end Go.Proofs.YtdalmiacjicgpaaGreatDoor

/- loader: Chunk. -/
namespace Go.Proofs.YtdalmiacjicgpaaGreatDoor
open Go.W

def chunkF (M : Ld) (k at_ : Int) (bs : List UInt8) : Int × Ld := match pnF k with
  | some p => if (M.r p).staged = true then (if chunkC (M.r p).mf (M.r p).got.length at_ bs.length = 0 then (0, M.set p { M.r p with got := (M.r p).got ++ bs }) else (chunkC (M.r p).mf (M.r p).got.length at_ bs.length, M)) else (6, M)
  | none => (6, M)
theorem chunkC_len {m : Man} {g : Nat} {at_ : Int} {n : Nat} (h : chunkC m g at_ n = 0) : g + n ≤ 512 := by
  unfold chunkC at h
  split at h
  · cases h
  · rename_i h1
    split at h
    · cases h
    · split at h
      · cases h
      · have hm : m.ok = true := by simpa using fun e => h1 (.inl e)
        unfold Man.ok at hm
        rw [decide_eq_true_eq] at hm
        omega
theorem chunk_ok {M : Ld} (ok : M.ok) (k at_ : Int) (bs : List UInt8) : (chunkF M k at_ bs).2.ok := by
  unfold chunkF
  split
  · split
    · split
      · rename_i h
        have := chunkC_len h
        exact ok.set ⟨(ok.r _).1, (ok.r _).2.1, (ok.r _).2.2.1, by show (_ ++ bs).length ≤ _; rw [List.length_append]; omega⟩ (by show (_ ++ bs).length ≤ _; rw [List.length_append]; omega)
      · exact ok
    · exact ok
  · exact ok
theorem rg_stg {sp : Nat} {q : Rg} {A : Ra} (h : q.mf.sum.length = 32) {i : TI} (ha : i.agg = true) (hs : i.size = 36) : partF i (Rg.v sp q A) 7 = some (.agg (stgV q.mf (.slice A.ga q.got.length A.gc)).toArray) := by
  rw [partF_agg ha (by rw [Rg.v_len h, hs]; exact Nat.le_refl _), hs]
  show some (Value.agg ((stgV q.mf (.slice A.ga q.got.length A.gc)).take 36).toArray) = _
  rw [List.take_of_length_le (by rw [stgV_len h]; exact Nat.le_refl _)]
set_option maxHeartbeats 1000000 in
theorem lchunk_spec (l d : Nat) (M : Ld) (ok : M.ok) (k at_ : Int) (a2 : Option Addr) (n2 c2 : Nat) (bs : List UInt8) (hn2 : n2 = bs.length) (hl2 : n2 ≤ 1000000) : Fun Tryz.prog 14 [.pointer (some ⟨l, 0, none⟩), .int .i64 k, .int .i64 at_, .slice a2 n2 c2] [slR 1 a2 n2 c2 (bsV bs)] [loaderH l d M]
    fun v H => v = .int .i64 (chunkF M k at_ bs).1 ∧ H = [loaderH l d (chunkF M k at_ bs).2] := by
  subst hn2
  refine xenter (p := pg) Tryz.call14 Tryz.func14 fun C => ?_
  haveI := RP.slR (RP.of C (X := slR 1 a2 bs.length c2 (bsV bs)) (by simp))
  obtain ⟨o, ho⟩ : ∃ o, pnF k = o := ⟨_, rfl⟩
  cases o with
  | none =>
    have hF : chunkF M k at_ bs = (6, M) := by unfold chunkF; rw [ho]
    refine G.ld l d ok 0 (by decide) fun rb lp s2 off sp so pre post A qo Ao hoff hpre hqo hfold => ?_
    unfold ldF
    refine G.app ?_
    repeat (first | refine xst ?_ | refine xar ?_ | refine xop ?_ | refine xlen ?_ | refine xld rfl ?_ | refine xsto rfl ?_ | refine xno ?_ | refine xt ?_ | refine xf ?_ | refine xnu ?_)
    refine xcall (region_spec l rb lp M.dead k none ho) ?_
    rintro v H ⟨rfl, rfl⟩
    refine G.app ?_
    refine xE 14 (.pointer none) rfl rfl ?_
    repeat (first | refine xst ?_ | refine xar ?_ | refine xop ?_ | refine xlen ?_ | refine xld rfl ?_ | refine xsto rfl ?_ | refine xno ?_ | refine xt ?_ | refine xf ?_ | refine xnu ?_)
    refine xfold (loaderH l d M) [0, 0, 0, 0, 0, 0, 0, 0, 0, 0] rfl (fun w F h => by have := hfold (M.r 0) A M.es M.dead M.ldead w F h; rwa [ld_same] at this) ?_
    refine xretp [0] ?_
    rw [hF]
    exact ⟨rfl, rfl⟩
  | some p =>
    obtain ⟨hp, hpk⟩ := pn_some ho
    have hF : chunkF M k at_ bs = if (M.r p).staged = true then (if chunkC (M.r p).mf (M.r p).got.length at_ bs.length = 0 then (0, M.set p { M.r p with got := (M.r p).got ++ bs }) else (chunkC (M.r p).mf (M.r p).got.length at_ bs.length, M)) else (6, M) := by unfold chunkF; rw [ho]
    refine G.ld l d ok p hp fun rb lp s2 off sp so pre post A qo Ao hoff hpre hqo hfold => ?_
    unfold ldF
    refine G.app ?_
    obtain ⟨q, hq⟩ : ∃ q, M.r p = q := ⟨_, rfl⟩
    have hqok := ok.r p
    have hqg := ok.got p
    rw [hq] at hqok hF hqg ⊢
    have hsame : ∀ w F, Sat (ldF l d rb lp s2 p off sp so pre post q A qo Ao M.es M.dead M.ldead) w F → (loaderH l d M).holds w F := fun w F h => by
      have := hfold q A M.es M.dead M.ldead w F h
      rw [← hq, ld_same] at this; exact this
    repeat (first | refine xst ?_ | refine xar ?_ | refine xop ?_ | refine xlen ?_ | refine xld rfl ?_ | refine xsto rfl ?_ | refine xno ?_ | refine xt ?_ | refine xf ?_ | refine xnu ?_)
    refine xcall (region_spec l rb lp M.dead k (some p) ho) ?_
    rintro v H ⟨rfl, rfl⟩
    refine G.app ?_
    refine xE 14 (.pointer (some ⟨rb, off, none⟩)) rfl (by rw [hoff]; rfl) ?_
    repeat (first | refine xst ?_ | refine xar ?_ | refine xop ?_ | refine xlen ?_ | refine xld rfl ?_ | refine xsto rfl ?_ | refine xno ?_ | refine xt ?_ | refine xf ?_ | refine xnu ?_)
    refine xld rfl ?_ (hv := at_ld hpre rfl)
    rcases Bool.eq_false_or_eq_true q.staged with hst | hst
    rotate_left
    · refine xE 21 (.bool false) rfl (congrArg Value.bool hst) ?_
      repeat (first | refine xst ?_ | refine xar ?_ | refine xop ?_ | refine xlen ?_ | refine xld rfl ?_ | refine xsto rfl ?_ | refine xno ?_ | refine xt ?_ | refine xf ?_ | refine xnu ?_)
      refine xfold (loaderH l d M) [0, 0, 0, 0, 0, 0, 0, 0, 0, 0] rfl hsame ?_
      refine xretp [0] ?_
      rw [hF, if_neg (by rw [hst]; decide)]
      exact ⟨rfl, rfl⟩
    rw [if_pos hst] at hF
    refine xE 21 (.bool true) rfl (congrArg Value.bool hst) ?_
    repeat (first | refine xst ?_ | refine xar ?_ | refine xop ?_ | refine xlen ?_ | refine xld rfl ?_ | refine xsto rfl ?_ | refine xno ?_ | refine xt ?_ | refine xf ?_ | refine xnu ?_)
    refine xld rfl ?_ (hv := at_ld hpre (rg_stg hqok.1 rfl rfl))
    repeat (first | refine xst ?_ | refine xar ?_ | refine xop ?_ | refine xlen ?_ | refine xld rfl ?_ | refine xsto rfl ?_ | refine xno ?_ | refine xt ?_ | refine xf ?_ | refine xnu ?_)
    refine xcall (chunk_spec q.mf hqok.1 A.ga q.got.length A.gc q.got rfl (by omega) at_ a2 bs.length c2 bs rfl hl2) ?_
    obtain ⟨e, he⟩ : ∃ e, chunkC q.mf q.got.length at_ bs.length = e := ⟨_, rfl⟩
    rw [he] at hF ⊢
    rintro v H ⟨s, rfl, ⟨h0, b, rfl, rfl⟩ | ⟨h0, rfl, rfl⟩⟩
    · rw [if_pos h0] at hF
      subst h0
      obtain ⟨ns, hns⟩ : ∃ s : Value, s = .slice (some ⟨b, 0, none⟩) (q.got.length + bs.length) (q.got.length + bs.length) := ⟨_, rfl⟩
      have hno : ns.oneCell' = true := by rw [hns]; rfl
      rw [← hns]
      have hsl := stgV_len hqok.1 ns
      refine G.app ?_
      obtain ⟨q2, hq2⟩ : ∃ z : Rg, z = { q with got := q.got ++ bs } := ⟨_, rfl⟩
      obtain ⟨A2, hA2⟩ : ∃ A2 : Ra, A2 = { A with ga := some ⟨b, 0, none⟩, gc := q.got.length + bs.length } := ⟨_, rfl⟩
      have l0 : (Rg.v sp q A).length = 43 := Rg.v_len hqok.1
      repeat (first | refine xst ?_ | refine xar ?_ | refine xop ?_ | refine xlen ?_ | refine xld rfl ?_ | refine xsto rfl ?_ | refine xno ?_ | refine xt ?_ | refine xf ?_ | refine xnu ?_)
      refine xnew fun sb => ?_
      refine xsta (cs := stgV q.mf ns) rfl hsl (stgV_one q.mf hno) (stgV q.mf ns) (put_all (by rw [hsl]; rfl)) (by rw [hsl]; exact Nat.le_of_ble_eq_true rfl) ?_
      repeat (first | refine xst ?_ | refine xar ?_ | refine xop ?_ | refine xlen ?_ | refine xld rfl ?_ | refine xsto rfl ?_ | refine xno ?_ | refine xt ?_ | refine xf ?_ | refine xnu ?_)
      refine xld rfl ?_ (hv := partF_all rfl hsl)
      repeat (first | refine xst ?_ | refine xar ?_ | refine xop ?_ | refine xlen ?_ | refine xld rfl ?_ | refine xsto rfl ?_ | refine xno ?_ | refine xt ?_ | refine xf ?_ | refine xnu ?_)
      refine xsta (cs := stgV q.mf ns) rfl hsl (stgV_one q.mf hno) (pre ++ (Rg.v sp q2 A2 ++ post)) (at_sta hpre (by rw [l0, hsl]; exact Nat.le_refl _) (stg_put l0 hsl (by rw [hq2, hA2, hns]; unfold Rg.v; rw [List.length_append]; rfl))) (at_stl hpre (by rw [l0, hsl]; exact Nat.le_refl _)) ?_
      repeat (first | refine xst ?_ | refine xar ?_ | refine xop ?_ | refine xlen ?_ | refine xld rfl ?_ | refine xsto rfl ?_ | refine xno ?_ | refine xt ?_ | refine xf ?_ | refine xnu ?_)
      refine xreH 7 (sl 1 A2.ia q2.img.length A2.ic (bsV q2.img)) rfl (by rw [hq2, hA2]) ?_
      refine xreH 2 (sl 1 A2.ga q2.got.length A2.gc (bsV q2.got)) rfl (by rw [hq2, hA2, List.length_append]) ?_
      refine xfold (loaderH l d (M.set p q2)) [3, 3, 3, 3, 3, 1, 0, 2, 2, 2] rfl (fun w F h => hfold q2 A2 M.es M.dead M.ldead w F h) ?_
      refine xretp [0] ?_
      rw [hF, hq2]
      exact ⟨rfl, rfl⟩
    · rw [if_neg h0] at hF
      have hs0 : stg0.length = 36 := rfl
      refine G.app ?_
      repeat (first | refine xst ?_ | refine xar ?_ | refine xop ?_ | refine xlen ?_ | refine xld rfl ?_ | refine xsto rfl ?_ | refine xno ?_ | refine xt ?_ | refine xf ?_ | refine xnu ?_)
      refine xnew fun sb => ?_
      refine xsta (cs := stg0) rfl rfl (stgV_one _ rfl) stg0 (put_all (by rfl)) (by exact Nat.le_of_ble_eq_true rfl) ?_
      repeat (first | refine xst ?_ | refine xar ?_ | refine xop ?_ | refine xlen ?_ | refine xld rfl ?_ | refine xsto rfl ?_ | refine xno ?_ | refine xt ?_ | refine xf ?_ | refine xnu ?_)
      refine xd (q := e ≠ 0) (fun h => ?_) (fun h => absurd h0 h)
      repeat (first | refine xst ?_ | refine xar ?_ | refine xop ?_ | refine xlen ?_ | refine xld rfl ?_ | refine xsto rfl ?_ | refine xno ?_ | refine xt ?_ | refine xf ?_ | refine xnu ?_)
      refine xfold (loaderH l d M) [1, 1, 1, 1, 1, 1, 1, 1, 1, 1] rfl hsame ?_
      refine xretp [0] ?_
      rw [hF]
      exact ⟨rfl, rfl⟩
end Go.Proofs.YtdalmiacjicgpaaGreatDoor

/- loader: Install. -/
namespace Go.Proofs.YtdalmiacjicgpaaGreatDoor
open Go.W

def Rg.unst (q : Rg) : Rg := { q with staged := false, mf := man0, got := [] }
/-- What comes of the log's entry. -/
def finF (M : Ld) (S : Dk) (p : Nat) (q' : Rg) (x : Ntr) : Int × Ld × Dk :=
  if (addF S 51 12 M.es x).1 ≠ 0 then ((addF S 51 12 M.es x).1, { M.set p q' with es := (addF S 51 12 M.es x).2.2.1, dead := true, ldead := (addF S 51 12 M.es x).2.2.2 }, (addF S 51 12 M.es x).2.1)
  else (x.code, { M.set p q' with es := (addF S 51 12 M.es x).2.2.1, ldead := (addF S 51 12 M.es x).2.2.2 }, (addF S 51 12 M.es x).2.1)
def installP (M : Ld) (S : Dk) (p : Nat) (q : Rg) : Int × Ld × Dk :=
  if q.staged = false then (6, M, S) else
  if 12 ≤ M.es.length ∨ q.gen.toNat = 4294967295 then (5, M, S) else
  if progF q.mf q.got ≠ [] then finF M S p q.unst ⟨2, p, q.mf.ver, codeF (progF q.mf q.got)⟩ else
  if (instF S (3 + 24 * p) q.gen q.bank q.mf q.got).1 ≠ 0 then ((instF S (3 + 24 * p) q.gen q.bank q.mf q.got).1, { M.set p q.unst with dead := true }, (instF S (3 + 24 * p) q.gen q.bank q.mf q.got).2)
  else finF M (instF S (3 + 24 * p) q.gen q.bank q.mf q.got).2 p (instQ q.unst q.mf q.got 0) ⟨1, p, q.mf.ver, 0⟩
def installF (M : Ld) (S : Dk) (k : Int) : Int × Ld × Dk := if M.dead = true then (9, M, S) else match pnF k with
  | some p => installP M S p (M.r p)
  | none => (6, M, S)
theorem ckGo_bnd (n : Nat) : ∀ (l : List Ins) (at_ : Nat), 0 ≤ codeF (ckGo n at_ l) ∧ codeF (ckGo n at_ l) ≤ 255
  | [], _ => ⟨Int.le_refl 0, (by decide : (0 : Int) ≤ 255)⟩
  | i :: r, at_ => by
    unfold ckGo
    split
    · show (0 : Int) ≤ 3 ∧ (3 : Int) ≤ 255; decide
    · split
      · show (0 : Int) ≤ 4 ∧ (4 : Int) ≤ 255; decide
      · exact ckGo_bnd n r (at_ + 1)
theorem ckF_bnd (l : List Ins) : 0 ≤ codeF (ckF l) ∧ codeF (ckF l) ≤ 255 := by
  unfold ckF
  split
  · show (0 : Int) ≤ 1 ∧ (1 : Int) ≤ 255; decide
  · have h := ckGo_bnd l.length l 0
    revert h
    cases ckGo l.length 0 l with
    | nil =>
      intro _
      show 0 ≤ codeF (if ckLast l = true then [] else [(2, (l.length : Int) - 1)]) ∧ codeF (if ckLast l = true then [] else [(2, (l.length : Int) - 1)]) ≤ 255
      split
      · show (0 : Int) ≤ 0 ∧ (0 : Int) ≤ 255; decide
      · show (0 : Int) ≤ 2 ∧ (2 : Int) ≤ 255; decide
    | cons x r => exact fun h => h
theorem decF_bnd (bs : List UInt8) : 0 ≤ codeF (decF bs) ∧ codeF (decF bs) ≤ 255 := by
  unfold decF
  split
  · show (0 : Int) ≤ 2 ∧ (2 : Int) ≤ 255; decide
  · have h := ckF_bnd (listI bs)
    revert h
    cases ckF (listI bs) with
    | nil => intro _; show (0 : Int) ≤ 0 ∧ (0 : Int) ≤ 255; decide
    | cons x r => exact fun h => h
theorem progF_bnd (m : Man) (bs : List UInt8) : 0 ≤ codeF (progF m bs) ∧ codeF (progF m bs) ≤ 255 := by
  have h := decF_bnd bs
  unfold progF
  split
  · decide
  · split
    · show (0 : Int) ≤ 2 ∧ (2 : Int) ≤ 255; decide
    · split
      · show (0 : Int) ≤ 7 ∧ (7 : Int) ≤ 255; decide
      · split
        · decide
        · unfold inF
          revert h
          cases decF bs with
          | nil => intro _; exact ⟨Int.le_refl 0, (by decide : (0 : Int) ≤ 255)⟩
          | cons x r => exact fun h => h
section
variable {fn : Func} {rd : List HProp} {post' : Post} {C : Ctx pg fn rd post'} {K : List It} {L : Env} {H : List HProp}
theorem xent (H' : List HProp) (h : Ent H H') (k : G C K L H') : G C K L H := fun a w F ha hs hf => k a w F ha (h w F hs) hf
end
set_option maxHeartbeats 2000000 in
theorem linstall_spec (l d : Nat) (M : Ld) (ok : M.ok) (S : Dk) (Sok : S.ok) (hp : S.pend.length ≤ 800000) (k : Int) : Fun Tryz.prog 15 [.pointer (some ⟨l, 0, none⟩), .int .i64 k] [gNib, gErr, kV, iniV] [loaderH l d M, diskH d S]
    fun v H => v = .int .i64 (installF M S k).1 ∧ H = [loaderH l d (installF M S k).2.1, diskH d (installF M S k).2.2] := by
  refine xenter (p := pg) Tryz.call15 Tryz.func15 fun C => ?_
  haveI : RP C gNib := RP.of C (by simp)
  haveI : RP C gErr := RP.of C (by simp)
  haveI : RP C kV := RP.of C (by simp)
  haveI : RP C iniV := RP.of C (by simp)
  obtain ⟨o, ho⟩ : ∃ o, pnF k = o := ⟨_, rfl⟩
  have hFd : M.dead = true → installF M S k = (9, M, S) := fun h => by unfold installF; rw [if_pos h]
  cases o with
  | none =>
    refine G.ld l d ok 0 (by decide) fun rb lp s2 off sp so pre post A qo Ao hoff hpre hqo hfold => ?_
    unfold ldF
    refine G.app ?_
    have hsame : ∀ w F, Sat (ldF l d rb lp s2 0 off sp so pre post (M.r 0) A qo Ao M.es M.dead M.ldead) w F → (loaderH l d M).holds w F := fun w F h => by
      have := hfold (M.r 0) A M.es M.dead M.ldead w F h; rwa [ld_same] at this
    repeat (first | refine xst ?_ | refine xar ?_ | refine xop ?_ | refine xlen ?_ | refine xld rfl ?_ | refine xsto rfl ?_ | refine xno ?_ | refine xt ?_ | refine xf ?_ | refine xnu ?_)
    refine xcall (region_spec l rb lp M.dead k none ho) ?_
    rintro v H ⟨rfl, rfl⟩
    refine G.app ?_
    refine xE 15 (.pointer none) rfl rfl ?_
    repeat (first | refine xst ?_ | refine xar ?_ | refine xop ?_ | refine xlen ?_ | refine xld rfl ?_ | refine xsto rfl ?_ | refine xno ?_ | refine xt ?_ | refine xf ?_ | refine xnu ?_)
    rcases Bool.eq_false_or_eq_true M.dead with hde | hde
    · refine xE 16 (.bool true) rfl (congrArg Value.bool hde) ?_
      repeat (first | refine xst ?_ | refine xar ?_ | refine xop ?_ | refine xlen ?_ | refine xld rfl ?_ | refine xsto rfl ?_ | refine xno ?_ | refine xt ?_ | refine xf ?_ | refine xnu ?_)
      refine xfold (loaderH l d M) [0, 0, 0, 0, 0, 0, 0, 0, 0, 0] rfl hsame ?_
      refine xretp [0, 0] ?_
      rw [hFd hde]; exact ⟨rfl, rfl⟩
    · have hF : installF M S k = (6, M, S) := by unfold installF; rw [if_neg (by rw [hde]; decide), ho]
      refine xE 16 (.bool false) rfl (congrArg Value.bool hde) ?_
      repeat (first | refine xst ?_ | refine xar ?_ | refine xop ?_ | refine xlen ?_ | refine xld rfl ?_ | refine xsto rfl ?_ | refine xno ?_ | refine xt ?_ | refine xf ?_ | refine xnu ?_)
      refine xfold (loaderH l d M) [0, 0, 0, 0, 0, 0, 0, 0, 0, 0] rfl hsame ?_
      refine xretp [0, 0] ?_
      rw [hF]; exact ⟨rfl, rfl⟩
  | some p =>
    obtain ⟨hpp, rfl⟩ := pn_some ho
    refine G.ld l d ok p hpp fun rb lp s2 off sp so pre post A qo Ao hoff hpre hqo hfold => ?_
    unfold ldF
    refine G.app ?_
    obtain ⟨q, hq⟩ : ∃ q, M.r p = q := ⟨_, rfl⟩
    have hqok := ok.r p
    have hqg := ok.got p
    have hes := ok.es
    rw [hq] at hqok hqg ⊢
    have hsame : ∀ w F, Sat (ldF l d rb lp s2 p off sp so pre post q A qo Ao M.es M.dead M.ldead) w F → (loaderH l d M).holds w F := fun w F h => by
      have := hfold q A M.es M.dead M.ldead w F h
      rw [← hq, ld_same] at this; exact this
    repeat (first | refine xst ?_ | refine xar ?_ | refine xop ?_ | refine xlen ?_ | refine xld rfl ?_ | refine xsto rfl ?_ | refine xno ?_ | refine xt ?_ | refine xf ?_ | refine xnu ?_)
    refine xcall (region_spec l rb lp M.dead (p : Int) (some p) ho) ?_
    rintro v H ⟨rfl, rfl⟩
    refine G.app ?_
    refine xE 15 (.pointer (some ⟨rb, off, none⟩)) rfl (by rw [hoff]; rfl) ?_
    repeat (first | refine xst ?_ | refine xar ?_ | refine xop ?_ | refine xlen ?_ | refine xld rfl ?_ | refine xsto rfl ?_ | refine xno ?_ | refine xt ?_ | refine xf ?_ | refine xnu ?_)
    rcases Bool.eq_false_or_eq_true M.dead with hde | hde
    · refine xE 16 (.bool true) rfl (congrArg Value.bool hde) ?_
      repeat (first | refine xst ?_ | refine xar ?_ | refine xop ?_ | refine xlen ?_ | refine xld rfl ?_ | refine xsto rfl ?_ | refine xno ?_ | refine xt ?_ | refine xf ?_ | refine xnu ?_)
      refine xfold (loaderH l d M) [0, 0, 0, 0, 0, 0, 0, 0, 0, 0] rfl hsame ?_
      refine xretp [0, 0] ?_
      rw [hFd hde]; exact ⟨rfl, rfl⟩
    have hF : installF M S p = installP M S p q := by unfold installF; rw [if_neg (by rw [hde]; decide), ho, ← hq]
    have hld := ok.live hde
    refine xE 16 (.bool false) rfl (congrArg Value.bool hde) ?_
    repeat (first | refine xst ?_ | refine xar ?_ | refine xop ?_ | refine xlen ?_ | refine xld rfl ?_ | refine xsto rfl ?_ | refine xno ?_ | refine xt ?_ | refine xf ?_ | refine xnu ?_)
    refine xld rfl ?_ (hv := at_ld hpre rfl)
    rcases Bool.eq_false_or_eq_true q.staged with hst | hst
    rotate_left
    · refine xE 28 (.bool false) rfl (congrArg Value.bool hst) ?_
      repeat (first | refine xst ?_ | refine xar ?_ | refine xop ?_ | refine xlen ?_ | refine xld rfl ?_ | refine xsto rfl ?_ | refine xno ?_ | refine xt ?_ | refine xf ?_ | refine xnu ?_)
      refine xfold (loaderH l d M) [0, 0, 0, 0, 0, 0, 0, 0, 0, 0] rfl hsame ?_
      refine xretp [0, 0] ?_
      rw [hF, show installP M S p q = (6, M, S) by unfold installP; rw [if_pos hst]]
      exact ⟨rfl, rfl⟩
    refine xE 28 (.bool true) rfl (congrArg Value.bool hst) ?_
    repeat (first | refine xst ?_ | refine xar ?_ | refine xop ?_ | refine xlen ?_ | refine xld rfl ?_ | refine xsto rfl ?_ | refine xno ?_ | refine xt ?_ | refine xf ?_ | refine xnu ?_)
    by_cases h12 : 12 ≤ M.es.length
    · skip
      refine xdraw ?_
      refine xdop 0 ?_
      refine xdop 1 ?_
      refine xdop 2 ?_
      refine xdld 3 rfl rfl ?_
      refine xdop 6 ?_
      refine xdop 7 ?_
      refine xdop 8 ?_
      refine xdld 9 rfl rfl ?_
      refine xdact 4 ?_
      refine xcall (entries_spec lp s2 M.es M.ldead (by omega)) ?_
      rintro v H ⟨a9, c9, rfl, rfl⟩
      refine G.app ?_
      refine xst ?_
      refine xdlen 5 ?_
      refine xdop 10 ?_
      refine xE 42 (.bool true) rfl (congrArg Value.bool (decide_eq_true (by omega))) ?_
      refine xdop 11 ?_
      (first | refine xdno 12 ?_ | refine xdop 12 ?_ | refine xdnu 12 ?_)
      (first | refine xdno 13 ?_ | refine xdop 13 ?_ | refine xdnu 13 ?_)
      (first | refine xdno 14 ?_ | refine xdop 14 ?_ | refine xdnu 14 ?_)
      (first | refine xdno 15 ?_ | refine xdld 15 rfl rfl ?_ | refine xdnu 15 ?_)
      (first | refine xdno 16 ?_ | refine xdop 16 ?_ | refine xdnu 16 ?_)
      refine xdop 17 ?_
      refine xdop 18 ?_
      refine xdend ?_
      repeat (first | refine xst ?_ | refine xar ?_ | refine xop ?_ | refine xlen ?_ | refine xld rfl ?_ | refine xsto rfl ?_ | refine xno ?_ | refine xt ?_ | refine xf ?_ | refine xnu ?_)
      refine xfold (loaderH l d M) [1, 1, 1, 1, 1, 1, 1, 1, 1, 1] rfl hsame ?_
      refine xretp [0, 1] ?_
      rw [hF, show installP M S p q = (5, M, S) by unfold installP; rw [if_neg (by rw [hst]; decide), if_pos (.inl h12)]]
      exact ⟨rfl, rfl⟩
    refine xdraw ?_
    refine xdop 0 ?_
    refine xdop 1 ?_
    refine xdop 2 ?_
    refine xdld 3 rfl rfl ?_
    refine xdop 6 ?_
    refine xdop 7 ?_
    refine xdop 8 ?_
    refine xdld 9 rfl rfl ?_
    refine xdact 4 ?_
    refine xcall (entries_spec lp s2 M.es M.ldead (by omega)) ?_
    rintro v H ⟨a9, c9, rfl, rfl⟩
    refine G.app ?_
    refine xst ?_
    refine xdlen 5 ?_
    refine xdop 10 ?_
    refine xE 42 (.bool false) rfl (congrArg Value.bool (decide_eq_false (by omega))) ?_
    refine xdop 11 ?_
    (first | refine xdno 12 ?_ | refine xdop 12 ?_ | refine xdnu 12 ?_)
    (first | refine xdno 13 ?_ | refine xdop 13 ?_ | refine xdnu 13 ?_)
    (first | refine xdno 14 ?_ | refine xdop 14 ?_ | refine xdnu 14 ?_)
    refine xdld 15 rfl rfl ?_ (hv := at_ld hpre rfl)
    (first | refine xdno 16 ?_ | refine xdop 16 ?_ | refine xdnu 16 ?_)
    refine xdop 17 ?_
    refine xdop 18 ?_
    refine xdend ?_
    repeat (first | refine xst ?_ | refine xar ?_ | refine xop ?_ | refine xlen ?_ | refine xld rfl ?_ | refine xsto rfl ?_ | refine xno ?_ | refine xt ?_ | refine xf ?_ | refine xnu ?_)
    refine xd (q := (q.gen.toNat : Int) = 4294967295) (fun hge => ?_) (fun hge => ?_)
    · repeat (first | refine xst ?_ | refine xar ?_ | refine xop ?_ | refine xlen ?_ | refine xld rfl ?_ | refine xsto rfl ?_ | refine xno ?_ | refine xt ?_ | refine xf ?_ | refine xnu ?_)
      refine xfold (loaderH l d M) [1, 1, 1, 1, 1, 1, 1, 1, 1, 1] rfl hsame ?_
      refine xretp [0, 1] ?_
      rw [hF, show installP M S p q = (5, M, S) by unfold installP; rw [if_neg (by rw [hst]; decide), if_pos (.inr (by omega))]]
      exact ⟨rfl, rfl⟩
    have hF2 : installF M S p = if progF q.mf q.got ≠ [] then finF M S p q.unst ⟨2, p, q.mf.ver, codeF (progF q.mf q.got)⟩ else
        if (instF S (3 + 24 * p) q.gen q.bank q.mf q.got).1 ≠ 0 then ((instF S (3 + 24 * p) q.gen q.bank q.mf q.got).1, { M.set p q.unst with dead := true }, (instF S (3 + 24 * p) q.gen q.bank q.mf q.got).2)
        else finF M (instF S (3 + 24 * p) q.gen q.bank q.mf q.got).2 p (instQ q.unst q.mf q.got 0) ⟨1, p, q.mf.ver, 0⟩ := by
      rw [hF]; unfold installP; rw [if_neg (by rw [hst]; decide), if_neg (by omega)]
    obtain ⟨q1, q2, q3, q4⟩ := hqok
    refine xslf 7 rfl fun _ hgc _ => ?_
    rw [hld, hde]
    repeat (first | refine xst ?_ | refine xar ?_ | refine xop ?_ | refine xlen ?_ | refine xld rfl ?_ | refine xsto rfl ?_ | refine xno ?_ | refine xt ?_ | refine xf ?_ | refine xnu ?_)
    refine xld rfl ?_ (hv := at_ld hpre (rg_stg q1 rfl rfl))
    repeat (first | refine xst ?_ | refine xar ?_ | refine xop ?_ | refine xlen ?_ | refine xld rfl ?_ | refine xsto rfl ?_ | refine xno ?_ | refine xt ?_ | refine xf ?_ | refine xnu ?_)
    have hsl := stgV_len q1 (.slice A.ga q.got.length A.gc)
    refine xnew fun sb => ?_
    refine xsta (cs := stgV q.mf (.slice A.ga q.got.length A.gc)) rfl hsl (stgV_one q.mf rfl) (stgV q.mf (.slice A.ga q.got.length A.gc)) (put_all (by rw [hsl]; rfl)) (by rw [hsl]; exact Nat.le_of_ble_eq_true rfl) ?_
    repeat (first | refine xst ?_ | refine xar ?_ | refine xop ?_ | refine xlen ?_ | refine xld rfl ?_ | refine xsto rfl ?_ | refine xno ?_ | refine xt ?_ | refine xf ?_ | refine xnu ?_)
    obtain ⟨z1, hz1⟩ : ∃ z : Rg, z = { q with staged := false } := ⟨_, rfl⟩
    obtain ⟨z2, hz2⟩ : ∃ z : Rg, z = { z1 with mf := man0, got := [] } := ⟨_, rfl⟩
    obtain ⟨A2, hA2⟩ : ∃ A2 : Ra, A2 = { A with ga := none, gc := 0 } := ⟨_, rfl⟩
    have hz : z2 = q.unst := by rw [hz2, hz1]; rfl
    have l0 : (Rg.v sp q A).length = 43 := Rg.v_len q1
    have l1 : (Rg.v sp z1 A).length = 43 := Rg.v_len (by rw [hz1]; exact q1)
    refine xsto rfl ?_ (hm := at_st (v' := Rg.v sp z1 A) hpre (by rw [l0]; exact Nat.le_of_ble_eq_true rfl) (by rw [hz1]; rfl))
    repeat (first | refine xst ?_ | refine xar ?_ | refine xop ?_ | refine xlen ?_ | refine xld rfl ?_ | refine xsto rfl ?_ | refine xno ?_ | refine xt ?_ | refine xf ?_ | refine xnu ?_)
    refine xsta (cs := stg0) rfl rfl (stgV_one _ rfl) (pre ++ (Rg.v sp z2 A2 ++ post)) (at_sta hpre (by rw [l1]; exact Nat.le_refl _) (stg_put l1 rfl (by rw [hz2, hA2]; rfl))) (at_stl hpre (by rw [l1]; exact Nat.le_refl _)) ?_
    repeat (first | refine xst ?_ | refine xar ?_ | refine xop ?_ | refine xlen ?_ | refine xld rfl ?_ | refine xsto rfl ?_ | refine xno ?_ | refine xt ?_ | refine xf ?_ | refine xnu ?_)
    refine xnew fun nb => ?_
    refine xrep 0 Ntr.zero.v rfl rfl ?_
    refine xsta (cs := Ntr.v ⟨1, p, q.mf.ver, 0⟩) rfl rfl (Ntr.v_one _) (Ntr.v ⟨1, p, q.mf.ver, 0⟩) (put_all (by rfl)) (by exact Nat.le_of_ble_eq_true rfl) ?_
    repeat (first | refine xst ?_ | refine xar ?_ | refine xop ?_ | refine xlen ?_ | refine xld rfl ?_ | refine xsto rfl ?_ | refine xno ?_ | refine xt ?_ | refine xf ?_ | refine xnu ?_)
    refine xld rfl ?_ (hv := partF_all rfl hsl)
    refine xcall (finish_spec q.mf q1 A.ga q.got.length A.gc q.got rfl q4) ?_
    rintro v H ⟨a8, c8, e, rfl, hoe, rfl⟩
    refine G.app ?_
    repeat (refine xnot 70 ?_; first | refine xst ?_ | refine xar ?_ | refine xop ?_ | refine xlen ?_ | refine xld rfl ?_ | refine xsto rfl ?_ | refine xno ?_ | refine xt ?_ | refine xf ?_ | refine xnu ?_)
    have hz2ok : z2.ok := by rw [hz]; exact ⟨rfl, q2, q3, Nat.zero_le _⟩
    cases hpf : progF q.mf q.got with
    | nil =>
      rw [if_neg (fun h => h hpf)] at hF2
      refine G.fact (chain [] e) (P := e = .nilIface) (fun w F h => h) fun h => ?_
      subst h
      have hi : instF S (3 + 24 * p) z2.gen z2.bank q.mf q.got = instF S (3 + 24 * p) q.gen q.bank q.mf q.got := by rw [hz]; rfl
      obtain ⟨r, hr⟩ : ∃ r, instF S (3 + 24 * p) q.gen q.bank q.mf q.got = r := ⟨_, rfl⟩
      obtain ⟨i1, i2, i3⟩ := inst_ok Sok (3 + 24 * p) q.gen q.bank q.mf q.got
      have hpn : pcN q.got.length ≤ 100 := by unfold pcN; omega
      rw [hr] at hi hF2 i1 i2 i3
      repeat (first | refine xst ?_ | refine xar ?_ | refine xop ?_ | refine xlen ?_ | refine xld rfl ?_ | refine xsto rfl ?_ | refine xno ?_ | refine xt ?_ | refine xf ?_ | refine xnu ?_)
      refine xld rfl ?_ (hv := partF_all rfl hsl)
      refine xcall (install_spec rb off sp (3 + 24 * p) d pre post hpre S Sok (by omega) (by omega) z2 A2 hz2ok q.mf q1 A.ga q.got.length A.gc q.got rfl hqg hgc) ?_
      rintro v H ⟨rfl, rfl⟩
      refine G.app ?_
      refine xE 80 (.int .i64 r.1) rfl (by rw [hi]) ?_
      obtain ⟨z3, hz3⟩ : ∃ z, z = instQ z2 q.mf q.got r.1 := ⟨_, rfl⟩
      obtain ⟨A3, hA3⟩ : ∃ z, z = instA A2 A.ga A.gc r.1 := ⟨_, rfl⟩
      refine xrep 0 (pre ++ (Rg.v sp z3 A3 ++ post)) rfl (by rw [hi, hz3, hA3]) ?_
      refine xreH 1 (diskH d r.2) rfl (by rw [hi]) ?_
      repeat (first | refine xst ?_ | refine xar ?_ | refine xop ?_ | refine xlen ?_ | refine xld rfl ?_ | refine xsto rfl ?_ | refine xno ?_ | refine xt ?_ | refine xf ?_ | refine xnu ?_)
      refine xd (q := r.1 ≠ 0) (fun hre => ?_) (fun hre => ?_)
      · rw [if_pos hre] at hF2
        have e3 : z3 = z2 := by rw [hz3]; unfold instQ; rw [if_neg hre]
        have e4 : A3 = A2 := by rw [hA3]; unfold instA; rw [if_neg hre]
        have f1 : z3.img = q.img := by rw [e3, hz]; rfl
        have f2 : z3.got = [] := by rw [e3, hz]; rfl
        have f3 : A3.ia = A.ia ∧ A3.ic = A.ic ∧ A3.ga = none ∧ A3.gc = 0 := by rw [e4, hA2]; exact ⟨rfl, rfl, rfl, rfl⟩
        repeat (first | refine xst ?_ | refine xar ?_ | refine xop ?_ | refine xlen ?_ | refine xld rfl ?_ | refine xsto rfl ?_ | refine xno ?_ | refine xt ?_ | refine xf ?_ | refine xnu ?_)
        refine G.sln 1 ?_
        refine xreH 0 (sl 1 none ([] : List UInt8).length 0 (bsV [])) rfl rfl ?_
        refine xent [pts l [.slice (some ⟨rb, 0, none⟩) 2 2, .pointer (some ⟨lp, 0, none⟩), .int .i64 12, .bool true], pts rb (pre ++ (Rg.v sp z3 A3 ++ post)), pts s2 (ptC 51 12 d), logH lp s2 M.es false, pts sp (ptC (3 + 24 * p) 24 d), sl 1 A3.ia z3.img.length A3.ic (bsV z3.img), sl 1 A3.ga z3.got.length A3.gc (bsV z3.got), pts so (ptC (27 - 24 * p) 24 d), sl 1 Ao.ia qo.img.length Ao.ic (bsV qo.img), sl 1 Ao.ga qo.got.length Ao.gc (bsV qo.got), diskH d r.2] (by rw [f1, f2, f3.1, f3.2.1, f3.2.2.1, f3.2.2.2]; exact ent_pick) ?_
        refine xfold (loaderH l d { M.set p q.unst with es := M.es, dead := true, ldead := false }) [0, 0, 0, 0, 0, 0, 0, 0, 0, 0] rfl (fun w F h => by have := hfold z3 A3 M.es true false w F h; rwa [e3, hz] at this) ?_
        refine xretp [0, 0] ?_
        rw [hF2]; refine ⟨rfl, ?_⟩; unfold Ld.set; dsimp only; rw [hld]
      rw [if_neg hre] at hF2
      have hre : r.1 = 0 := by omega
      have e3 : z3 = instQ q.unst q.mf q.got 0 := by rw [hz3, hz, hre]
      have e4 : A3 = ⟨A.ga, A.gc, none, 0⟩ := by rw [hA3, hA2, hre]; rfl
      have f1 : z3.img = q.got := by rw [e3]; rfl
      have f2 : z3.got = [] := by rw [e3]; rfl
      have f3 : A3.ia = A.ga ∧ A3.ic = A.gc ∧ A3.ga = none ∧ A3.gc = 0 := by rw [e4]; exact ⟨rfl, rfl, rfl, rfl⟩
      have hx : Ntr.valid ⟨1, p, q.mf.ver, 0⟩ = true := by unfold Ntr.valid; rw [decide_eq_true_eq]; dsimp only; omega
      rw [← e3] at hF2
      refine G.sln 1 ?_
      refine xreH 0 (sl 1 none ([] : List UInt8).length 0 (bsV [])) rfl rfl ?_
      refine xent [pts nb (Ntr.v ⟨1, p, q.mf.ver, 0⟩), pts l (ldC rb lp false), pts rb (pre ++ (Rg.v sp z3 A3 ++ post)), pts s2 (ptC 51 12 d), logH lp s2 M.es false, pts sp (ptC (3 + 24 * p) 24 d), sl 1 A3.ia z3.img.length A3.ic (bsV z3.img), sl 1 A3.ga z3.got.length A3.gc (bsV z3.got), pts so (ptC (27 - 24 * p) 24 d), sl 1 Ao.ia qo.img.length Ao.ic (bsV qo.img), sl 1 Ao.ga qo.got.length Ao.gc (bsV qo.got), diskH d r.2] (by rw [f1, f2, f3.1, f3.2.1, f3.2.2.1, f3.2.2.2]; exact ent_pick) ?_
      repeat (first | refine xst ?_ | refine xar ?_ | refine xop ?_ | refine xlen ?_ | refine xld rfl ?_ | refine xsto rfl ?_ | refine xno ?_ | refine xt ?_ | refine xf ?_ | refine xnu ?_)
      refine xdraw ?_
      refine xdop 0 ?_
      refine xdop 1 ?_
      refine xdop 2 ?_
      refine xdld 3 rfl rfl ?_
      refine xdld 4 rfl rfl ?_ (hv := partF_all rfl rfl)
      refine xdact 5 ?_
      refine xcall (aadd_spec lp s2 51 12 d r.2 i1 (by omega) (by decide) (by decide) M.es (by omega) ⟨1, p, q.mf.ver, 0⟩ hx) ?_
      rintro v H ⟨rfl, rfl⟩
      refine G.app ?_
      refine xst ?_
      refine xdop 6 ?_
      refine xdend ?_
      obtain ⟨r9, hr9⟩ : ∃ r9, addF r.2 51 12 M.es ⟨1, p, q.mf.ver, 0⟩ = r9 := ⟨_, rfl⟩
      refine xE 92 (.int .i64 r9.1) rfl (by rw [hr9]) ?_
      refine xE 12 (.int .i64 r9.1) rfl (by rw [hr9]) ?_
      refine xreH 0 (logH lp s2 r9.2.2.1 r9.2.2.2) rfl (by rw [hr9]) ?_
      refine xreH 1 (diskH d r9.2.1) rfl (by rw [hr9]) ?_
      repeat (first | refine xst ?_ | refine xar ?_ | refine xop ?_ | refine xlen ?_ | refine xld rfl ?_ | refine xsto rfl ?_ | refine xno ?_ | refine xt ?_ | refine xf ?_ | refine xnu ?_)
      refine xd (q := r9.1 ≠ 0) (fun h9 => ?_) (fun h9 => ?_)
      · repeat (first | refine xst ?_ | refine xar ?_ | refine xop ?_ | refine xlen ?_ | refine xld rfl ?_ | refine xsto rfl ?_ | refine xno ?_ | refine xt ?_ | refine xf ?_ | refine xnu ?_)
        refine xfold (loaderH l d { M.set p z3 with es := r9.2.2.1, dead := true, ldead := r9.2.2.2 }) [3, 3, 3, 1, 2, 2, 2, 2, 2, 2] rfl (fun w F h => hfold z3 A3 r9.2.2.1 true r9.2.2.2 w F h) ?_
        refine xretp [0, 0] ?_
        rw [hF2]; unfold finF; rw [hr9, if_pos h9]; exact ⟨rfl, rfl⟩
      · repeat (first | refine xst ?_ | refine xar ?_ | refine xop ?_ | refine xlen ?_ | refine xld rfl ?_ | refine xsto rfl ?_ | refine xno ?_ | refine xt ?_ | refine xf ?_ | refine xnu ?_)
        refine xfold (loaderH l d { M.set p z3 with es := r9.2.2.1, dead := false, ldead := r9.2.2.2 }) [3, 3, 3, 1, 2, 2, 2, 2, 2, 2] rfl (fun w F h => hfold z3 A3 r9.2.2.1 false r9.2.2.2 w F h) ?_
        refine xretp [0, 0] ?_
        rw [hF2]; unfold finF; rw [hr9, if_neg h9]; refine ⟨rfl, ?_⟩; unfold Ld.set; dsimp only; rw [hde]
    | cons qc rc =>
      obtain ⟨cc, xx⟩ := qc
      have hb := progF_bnd q.mf q.got
      have hcc : codeF (progF q.mf q.got) = cc := by rw [hpf]; rfl
      rw [if_pos (by rw [hpf]; exact fun h => by cases h), hcc, ← hz] at hF2
      rw [hcc] at hb
      refine G.fact (chain ((cc, xx) :: rc) e) (P := ∃ b : Nat, e = .iface 179 (.pointer (some ⟨b, 0, none⟩))) (fun w F h => by obtain ⟨b, u, F1, F2, ⟨h1, h2⟩, _⟩ := h; exact ⟨b, h1⟩) fun h => ?_
      obtain ⟨eb, rfl⟩ := h
      repeat (first | refine xst ?_ | refine xar ?_ | refine xop ?_ | refine xlen ?_ | refine xld rfl ?_ | refine xsto rfl ?_ | refine xno ?_ | refine xt ?_ | refine xf ?_ | refine xnu ?_)
      refine xcall (code_spec ((cc, xx) :: rc) (.iface 179 (.pointer (some ⟨eb, 0, none⟩)))) ?_
      rintro v H ⟨rfl, rfl⟩
      refine G.app ?_
      refine xE 74 (.int .i64 cc) rfl rfl ?_
      repeat (first | refine xst ?_ | refine xar ?_ | refine xop ?_ | refine xlen ?_ | refine xld rfl ?_ | refine xsto rfl ?_ | refine xno ?_ | refine xt ?_ | refine xf ?_ | refine xnu ?_)
      have hx : Ntr.valid ⟨2, p, q.mf.ver, cc⟩ = true := by unfold Ntr.valid; rw [decide_eq_true_eq]; dsimp only; omega
      have f1 : z2.img = q.img := by rw [hz]; rfl
      have f2 : z2.got = [] := by rw [hz]; rfl
      have f3 : A2.ia = A.ia ∧ A2.ic = A.ic ∧ A2.ga = none ∧ A2.gc = 0 := by rw [hA2]; exact ⟨rfl, rfl, rfl, rfl⟩
      refine G.sln 1 ?_
      refine xreH 0 (sl 1 none ([] : List UInt8).length 0 (bsV [])) rfl rfl ?_
      refine xrep 3 (Ntr.v ⟨2, p, q.mf.ver, cc⟩) rfl rfl ?_
      refine xent [pts nb (Ntr.v ⟨2, p, q.mf.ver, cc⟩), pts l (ldC rb lp false), pts rb (pre ++ (Rg.v sp z2 A2 ++ post)), pts s2 (ptC 51 12 d), logH lp s2 M.es false, pts sp (ptC (3 + 24 * p) 24 d), sl 1 A2.ia z2.img.length A2.ic (bsV z2.img), sl 1 A2.ga z2.got.length A2.gc (bsV z2.got), pts so (ptC (27 - 24 * p) 24 d), sl 1 Ao.ia qo.img.length Ao.ic (bsV qo.img), sl 1 Ao.ga qo.got.length Ao.gc (bsV qo.got), diskH d S] (by rw [f1, f2, f3.1, f3.2.1, f3.2.2.1, f3.2.2.2]; exact ent_pick) ?_
      repeat (first | refine xst ?_ | refine xar ?_ | refine xop ?_ | refine xlen ?_ | refine xld rfl ?_ | refine xsto rfl ?_ | refine xno ?_ | refine xt ?_ | refine xf ?_ | refine xnu ?_)
      refine xdraw ?_
      refine xdop 0 ?_
      refine xdop 1 ?_
      refine xdop 2 ?_
      refine xdld 3 rfl rfl ?_
      refine xdld 4 rfl rfl ?_ (hv := partF_all rfl rfl)
      refine xdact 5 ?_
      refine xcall (aadd_spec lp s2 51 12 d S Sok (by omega) (by decide) (by decide) M.es (by omega) ⟨2, p, q.mf.ver, cc⟩ hx) ?_
      rintro v H ⟨rfl, rfl⟩
      refine G.app ?_
      refine xst ?_
      refine xdop 6 ?_
      refine xdend ?_
      obtain ⟨r9, hr9⟩ : ∃ r9, addF S 51 12 M.es ⟨2, p, q.mf.ver, cc⟩ = r9 := ⟨_, rfl⟩
      refine xE 92 (.int .i64 r9.1) rfl (by rw [hr9]) ?_
      refine xE 12 (.int .i64 r9.1) rfl (by rw [hr9]) ?_
      refine xreH 0 (logH lp s2 r9.2.2.1 r9.2.2.2) rfl (by rw [hr9]) ?_
      refine xreH 1 (diskH d r9.2.1) rfl (by rw [hr9]) ?_
      repeat (first | refine xst ?_ | refine xar ?_ | refine xop ?_ | refine xlen ?_ | refine xld rfl ?_ | refine xsto rfl ?_ | refine xno ?_ | refine xt ?_ | refine xf ?_ | refine xnu ?_)
      refine xd (q := r9.1 ≠ 0) (fun h9 => ?_) (fun h9 => ?_)
      · repeat (first | refine xst ?_ | refine xar ?_ | refine xop ?_ | refine xlen ?_ | refine xld rfl ?_ | refine xsto rfl ?_ | refine xno ?_ | refine xt ?_ | refine xf ?_ | refine xnu ?_)
        refine xfold (loaderH l d { M.set p z2 with es := r9.2.2.1, dead := true, ldead := r9.2.2.2 }) [3, 3, 3, 1, 2, 2, 2, 2, 2, 2] rfl (fun w F h => hfold z2 A2 r9.2.2.1 true r9.2.2.2 w F h) ?_
        refine xretp [0, 0] ?_
        rw [hF2]; unfold finF; rw [hr9, if_pos h9]; exact ⟨rfl, rfl⟩
      · repeat (first | refine xst ?_ | refine xar ?_ | refine xop ?_ | refine xlen ?_ | refine xld rfl ?_ | refine xsto rfl ?_ | refine xno ?_ | refine xt ?_ | refine xf ?_ | refine xnu ?_)
        refine xfold (loaderH l d { M.set p z2 with es := r9.2.2.1, dead := false, ldead := r9.2.2.2 }) [3, 3, 3, 1, 2, 2, 2, 2, 2, 2] rfl (fun w F h => hfold z2 A2 r9.2.2.1 false r9.2.2.2 w F h) ?_
        refine xretp [0, 0] ?_
        rw [hF2]; unfold finF; rw [hr9, if_neg h9]; refine ⟨rfl, ?_⟩; unfold Ld.set; dsimp only; rw [hde]
theorem add_ok {S : Dk} (h : S.ok) (f c : Nat) (es : List Ntr) (x : Ntr) : (addF S f c es x).2.1.ok ∧ (addF S f c es x).2.1.sec.length = S.sec.length ∧ (addF S f c es x).2.1.pend.length ≤ S.pend.length + 1 := by
  have h1 := pwrite_ok h f c (es.length : Int) (x.sec es.length)
  have h2 := pwrite_len S f c (es.length : Int) (x.sec es.length)
  have h3 := pwrite_pend S f c (es.length : Int) (x.sec es.length)
  unfold addF
  generalize pwriteF S f c (es.length : Int) (x.sec es.length) = r at h1 h2 h3 ⊢
  simp only
  have f1 := flush_ok h1
  have f2 := flush_len r.2
  have f3 := flush_pend r.2
  split
  · split
    · exact ⟨f1, f2.trans h2, by simp only; omega⟩
    · exact ⟨f1, f2.trans h2, by simp only; omega⟩
  · exact ⟨h1, h2, h3⟩
theorem add_es (S : Dk) (f c : Nat) (es : List Ntr) (x : Ntr) : (addF S f c es x).2.2.1.length ≤ es.length + 1 ∧ ((addF S f c es x).1 = 0 → (addF S f c es x).2.2.2 = false) := by
  unfold addF
  simp only
  split
  · split
    · exact ⟨by simp, fun _ => rfl⟩
    · rename_i h; exact ⟨by simp, fun e => absurd e h⟩
  · rename_i h; exact ⟨by simp, fun e => absurd e h⟩
theorem fin_ok {M : Ld} (ok : M.ok) {S : Dk} (Sok : S.ok) (p : Nat) {q' : Rg} (hq : q'.ok) (hg : q'.got.length ≤ 5000) (x : Ntr) (h12 : M.es.length < 12) :
    (finF M S p q' x).2.1.ok ∧ (finF M S p q' x).2.2.ok ∧ (finF M S p q' x).2.2.sec.length = S.sec.length ∧ (finF M S p q' x).2.2.pend.length ≤ S.pend.length + 1 := by
  obtain ⟨a1, a2, a3⟩ := add_ok Sok 51 12 M.es x
  obtain ⟨a4, a5⟩ := add_es S 51 12 M.es x
  have hs := ok.set (p := p) hq hg
  unfold finF
  split
  · exact ⟨⟨hs.r, hs.got, by show (addF S 51 12 M.es x).2.2.1.length ≤ 12; omega, fun h => by cases h⟩, a1, a2, a3⟩
  · rename_i h
    exact ⟨⟨hs.r, hs.got, by show (addF S 51 12 M.es x).2.2.1.length ≤ 12; omega, fun _ => a5 (by omega)⟩, a1, a2, a3⟩
theorem linst_ok {M : Ld} (ok : M.ok) {S : Dk} (Sok : S.ok) (k : Int) :
    (installF M S k).2.1.ok ∧ (installF M S k).2.2.ok ∧ (installF M S k).2.2.sec.length = S.sec.length ∧ (installF M S k).2.2.pend.length ≤ S.pend.length + 200 := by
  unfold installF
  split
  · exact ⟨ok, Sok, rfl, Nat.le_add_right _ _⟩
  · split
    · rename_i p hp
      obtain ⟨q1, q2, q3, q4⟩ := ok.r p
      have hg := ok.got p
      unfold installP
      split
      · exact ⟨ok, Sok, rfl, Nat.le_add_right _ _⟩
      · split
        · exact ⟨ok, Sok, rfl, Nat.le_add_right _ _⟩
        · rename_i h12
          have hlt : M.es.length < 12 := by omega
          have hu : (M.r p).unst.ok := ⟨rfl, q2, q3, Nat.zero_le _⟩
          split
          · obtain ⟨g1, g2, g3, g4⟩ := fin_ok ok Sok p hu (Nat.zero_le _) ⟨2, p, (M.r p).mf.ver, codeF (progF (M.r p).mf (M.r p).got)⟩ hlt
            exact ⟨g1, g2, g3, by omega⟩
          · obtain ⟨i1, i2, i3⟩ := inst_ok Sok (3 + 24 * p) (M.r p).gen (M.r p).bank (M.r p).mf (M.r p).got
            have hpn : pcN (M.r p).got.length ≤ 100 := by unfold pcN; omega
            split
            · have hs := ok.set (p := p) hu (Nat.zero_le _)
              exact ⟨⟨hs.r, hs.got, hs.es, fun h => by cases h⟩, i1, i2, by simp only; omega⟩
            · obtain ⟨g1, g2, g3, g4⟩ := fin_ok ok i1 p (q' := instQ (M.r p).unst (M.r p).mf (M.r p).got 0) ⟨rfl, by show 1 - _ ≤ 1; omega, q4, Nat.zero_le _⟩ (Nat.zero_le _) ⟨1, p, (M.r p).mf.ver, 0⟩ hlt
              exact ⟨g1, g2, g3.trans i2, by omega⟩
    · exact ⟨ok, Sok, rfl, Nat.le_add_right _ _⟩
end Go.Proofs.YtdalmiacjicgpaaGreatDoor

/- loader: Open. -/
namespace Go.Proofs.YtdalmiacjicgpaaGreatDoor
open Go.W

abbrev LoSt := Option ((Nat × Rg × Ra) × Option (Nat × Rg × Ra))
def loN : LoSt → Nat
  | none => 0
  | some (_, none) => 1
  | some (_, some _) => 2
def z43 : List Value := [.pointer none, wV 0, .int .i64 0, .bool false, .slice none 0 0, wV 0, .bool false] ++ stg0
def loH (d l rb : Nat) (x : LoSt) : List HProp := pts l [.slice (some ⟨rb, 0, none⟩) 2 2, .pointer none, .int .i64 0, .bool false] :: match x with
  | none => [pts rb (z43 ++ z43)]
  | some ((s0, q0, A0), none) => [pts rb (Rg.v s0 q0 A0 ++ z43), pts s0 (ptC 3 24 d), sl 1 A0.ia q0.img.length A0.ic (bsV q0.img)]
  | some ((s0, q0, A0), some (s1, q1, A1)) => [pts rb (Rg.v s0 q0 A0 ++ Rg.v s1 q1 A1), pts s0 (ptC 3 24 d), sl 1 A0.ia q0.img.length A0.ic (bsV q0.img), pts s1 (ptC 27 24 d), sl 1 A1.ia q1.img.length A1.ic (bsV q1.img)]
def loQ (S : Dk) (f p : Nat) (y : Nat × Rg × Ra) : Prop := LoadR S f p y.2.1 ∧ y.2.1.ok ∧ y.2.2.ga = none ∧ y.2.2.gc = 0
def loI (S : Dk) : LoSt → Prop
  | none => True
  | some (y, none) => loQ S 3 0 y
  | some (y, some z) => loQ S 3 0 y ∧ loQ S 27 1 z
set_option maxHeartbeats 2000000 in
theorem lopen_spec (p d : Nat) (S : Dk) (ok : S.ok) (hpw : S.off = false) (hp : S.pend.length ≤ 1000000) (hl : 63 ≤ S.sec.length) :
    Fun Tryz.prog 10 [.pointer (some ⟨p, 0, none⟩), .int .i64 2] [gNib, gErr, kV, iniV, rdb p (ptC 3 60 d), diskH d S] []
    fun v H => ∃ (l : Nat) (M : Ld), v = .tuple #[.pointer (some ⟨l, 0, none⟩), .int .i64 0] ∧ M.ok ∧ LoadR S 3 0 (M.r 0) ∧ LoadR S 27 1 (M.r 1) ∧ M.es = logGo S 51 0 12 ∧ M.dead = false ∧ H = [loaderH l d M] := by
  refine xenter (p := pg) Tryz.call10 Tryz.func10 fun C => ?_
  haveI : RP C gNib := RP.of C (by simp)
  haveI : RP C gErr := RP.of C (by simp)
  haveI : RP C kV := RP.of C (by simp)
  haveI : RP C iniV := RP.of C (by simp)
  haveI := RP.rdb (RP.of C (X := rdb p (ptC 3 60 d)) (by simp))
  haveI : RP C (diskH d S) := RP.of C (by simp)
  repeat (first | refine xst ?_ | refine xar ?_ | refine xop ?_ | refine xlen ?_ | refine xld rfl ?_ | refine xsto rfl ?_ | refine xno ?_ | refine xt ?_ | refine xf ?_ | refine xnu ?_)
  refine xcall (psize_spec p 3 60 d) ?_
  rintro v H ⟨rfl, rfl⟩
  refine G.app ?_
  repeat (first | refine xst ?_ | refine xar ?_ | refine xop ?_ | refine xlen ?_ | refine xld rfl ?_ | refine xsto rfl ?_ | refine xno ?_ | refine xt ?_ | refine xf ?_ | refine xnu ?_)
  refine xmakep 2 rfl rfl rfl (by decide) (by decide) fun rb => ?_
  repeat (first | refine xst ?_ | refine xar ?_ | refine xop ?_ | refine xlen ?_ | refine xld rfl ?_ | refine xsto rfl ?_ | refine xno ?_ | refine xt ?_ | refine xf ?_ | refine xnu ?_)
  refine xnew fun l => ?_
  have hz : ([.pointer none, wV 0, .int .i64 0, .bool false, .slice none 0 0, wV 0, .bool false] ++ stg0 : List Value) = z43 := rfl
  refine xrep 1 (z43 ++ z43) rfl rfl ?_
  repeat (refine xnot 37 ?_; first | refine xst ?_ | refine xar ?_ | refine xop ?_ | refine xlen ?_ | refine xld rfl ?_ | refine xsto rfl ?_ | refine xno ?_ | refine xt ?_ | refine xf ?_ | refine xnu ?_)
  refine xst ?_
  refine G.cut (σ := LoSt) (fun x => [(0, .pointer (some ⟨p, 0, none⟩)), (1, .int .i64 2), (6, .pointer (some ⟨l, 0, none⟩))]) (fun x => (loH d l rb x)) (fun x => loI S x ∧ loN x = 2) ?_ ?_
  · repeat (first | refine xst ?_ | refine xar ?_ | refine xop ?_ | refine xlen ?_ | refine xld rfl ?_ | refine xsto rfl ?_ | refine xno ?_ | refine xt ?_ | refine xf ?_ | refine xnu ?_)
    refine G.loop (σ := LoSt) (fun x => [(0, .pointer (some ⟨p, 0, none⟩)), (1, .int .i64 2), (6, .pointer (some ⟨l, 0, none⟩)), (36, .int .i64 2), (37, .int .i64 (loN x : Int))]) (fun x => (loH d l rb x)) (fun x => loI S x) (fun x => 2 - loN x) none trivial (by repeat (first | exact trivial | refine ⟨rfl, ?_⟩)) (by show Ent _ [pts l [.slice (some ⟨rb, 0, none⟩) 2 2, .pointer none, .int .i64 0, .bool false], pts rb (z43 ++ z43)]; exact ent_pick) ?_
    rintro x hI
    have hI : loI S x := hI
    show G C _ [(0, .pointer (some ⟨p, 0, none⟩)), (1, .int .i64 2), (6, .pointer (some ⟨l, 0, none⟩)), (36, .int .i64 2), (37, .int .i64 (loN x : Int))] (loH d l rb x)
    rcases x with _ | ⟨⟨s0, q0, A0⟩, _ | ⟨s1, q1, A1⟩⟩
    · show G C _ [(0, .pointer (some ⟨p, 0, none⟩)), (1, .int .i64 2), (6, .pointer (some ⟨l, 0, none⟩)), (36, .int .i64 2), (37, .int .i64 0)] [pts l [.slice (some ⟨rb, 0, none⟩) 2 2, .pointer none, .int .i64 0, .bool false], pts rb (z43 ++ z43)]
      repeat (first | refine xst ?_ | refine xar ?_ | refine xop ?_ | refine xlen ?_ | refine xld rfl ?_ | refine xsto rfl ?_ | refine xno ?_ | refine xt ?_ | refine xf ?_ | refine xnu ?_)
      repeat (first | refine xst ?_ | refine xar ?_ | refine xop ?_ | refine xlen ?_ | refine xld rfl ?_ | refine xsto rfl ?_ | refine xno ?_ | refine xt ?_ | refine xf ?_ | refine xnu ?_)
      refine xcall (ppart_spec p 3 60 d 0 24 (by decide) (by decide) (by decide) (by decide)) ?_
      rintro v H ⟨sp, rfl, rfl⟩
      refine G.app ?_
      repeat (first | refine xst ?_ | refine xar ?_ | refine xop ?_ | refine xlen ?_ | refine xld rfl ?_ | refine xsto rfl ?_ | refine xno ?_ | refine xt ?_ | refine xf ?_ | refine xnu ?_)
      refine xix ?_ (k := 0)
      repeat (first | refine xst ?_ | refine xar ?_ | refine xop ?_ | refine xlen ?_ | refine xld rfl ?_ | refine xsto rfl ?_ | refine xno ?_ | refine xt ?_ | refine xf ?_ | refine xnu ?_)
      refine xix ?_ (k := 0)
      refine xrep 2 ([] ++ (Rg.v sp Rg.new Ra.none ++ z43)) rfl rfl ?_
      refine xrep 1 (ptC 3 24 d) rfl rfl ?_
      repeat (first | refine xst ?_ | refine xar ?_ | refine xop ?_ | refine xlen ?_ | refine xld rfl ?_ | refine xsto rfl ?_ | refine xno ?_ | refine xt ?_ | refine xf ?_ | refine xnu ?_)
      refine xcall (load_spec rb 0 sp 0 3 d [] z43 rfl S ok hpw hp (by omega) (by decide)) ?_
      rintro v H ⟨q, A, rfl, hL, hq, hga, hgc, rfl⟩
      refine G.app ?_
      repeat (first | refine xst ?_ | refine xar ?_ | refine xop ?_ | refine xlen ?_ | refine xld rfl ?_ | refine xsto rfl ?_ | refine xno ?_ | refine xt ?_ | refine xf ?_ | refine xnu ?_)
      refine G.fin (some ((sp, q, A), none)) ⟨⟨hL, hq, hga, hgc⟩, by show 2 - 1 < 2 - 0; decide⟩ ⟨rfl, rfl, rfl, rfl, rfl, trivial⟩ ?_
      show Ent _ [pts l [.slice (some ⟨rb, 0, none⟩) 2 2, .pointer none, .int .i64 0, .bool false], pts rb ([] ++ (Rg.v sp q A ++ z43)), pts sp (ptC 3 24 d), sl 1 A.ia q.img.length A.ic (bsV q.img)]
      exact ent_pick
    · have hv0 : (Rg.v s0 q0 A0).length = 43 := Rg.v_len hI.2.1.1
      show G C _ [(0, .pointer (some ⟨p, 0, none⟩)), (1, .int .i64 2), (6, .pointer (some ⟨l, 0, none⟩)), (36, .int .i64 2), (37, .int .i64 1)] [pts l [.slice (some ⟨rb, 0, none⟩) 2 2, .pointer none, .int .i64 0, .bool false], pts rb (Rg.v s0 q0 A0 ++ z43), pts s0 (ptC 3 24 d), sl 1 A0.ia q0.img.length A0.ic (bsV q0.img)]
      refine xrep 1 (Rg.v s0 q0 A0 ++ (z43 ++ [])) rfl (by rw [List.append_nil]) ?_
      repeat (first | refine xst ?_ | refine xar ?_ | refine xop ?_ | refine xlen ?_ | refine xld rfl ?_ | refine xsto rfl ?_ | refine xno ?_ | refine xt ?_ | refine xf ?_ | refine xnu ?_)
      refine xcall (ppart_spec p 3 60 d 24 24 (by decide) (by decide) (by decide) (by decide)) ?_
      rintro v H ⟨sp, rfl, rfl⟩
      refine G.app ?_
      repeat (first | refine xst ?_ | refine xar ?_ | refine xop ?_ | refine xlen ?_ | refine xld rfl ?_ | refine xsto rfl ?_ | refine xno ?_ | refine xt ?_ | refine xf ?_ | refine xnu ?_)
      refine xix ?_ (k := 1)
      refine xsta (cs := Rg.v sp Rg.new Ra.none) rfl rfl (List.all_eq_true.1 (rfl : (Rg.v sp Rg.new Ra.none).all (fun v => v.oneCell') = true)) (Rg.v s0 q0 A0 ++ (Rg.v sp Rg.new Ra.none ++ [])) (by show List.take (43 + 0) _ ++ _ ++ List.drop (43 + 0 + _) _ = _; exact at_sta hv0 (by exact Nat.le_refl 43) rfl) (by show 43 + 0 + _ ≤ _; exact at_stl hv0 (by exact Nat.le_refl 43)) ?_
      repeat (first | refine xst ?_ | refine xar ?_ | refine xop ?_ | refine xlen ?_ | refine xld rfl ?_ | refine xsto rfl ?_ | refine xno ?_ | refine xt ?_ | refine xf ?_ | refine xnu ?_)
      refine xix ?_ (k := 1)
      refine xrep 0 (ptC 27 24 d) rfl rfl ?_
      repeat (first | refine xst ?_ | refine xar ?_ | refine xop ?_ | refine xlen ?_ | refine xld rfl ?_ | refine xsto rfl ?_ | refine xno ?_ | refine xt ?_ | refine xf ?_ | refine xnu ?_)
      refine xcall (load_spec rb 43 sp 1 27 d (Rg.v s0 q0 A0) [] hv0 S ok hpw hp (by omega) (by decide)) ?_
      rintro v H ⟨q, A, rfl, hL, hq, hga, hgc, rfl⟩
      refine G.app ?_
      repeat (first | refine xst ?_ | refine xar ?_ | refine xop ?_ | refine xlen ?_ | refine xld rfl ?_ | refine xsto rfl ?_ | refine xno ?_ | refine xt ?_ | refine xf ?_ | refine xnu ?_)
      refine xrep 0 (Rg.v s0 q0 A0 ++ Rg.v sp q A) rfl (by rw [List.append_nil]) ?_
      refine G.fin (some ((s0, q0, A0), some (sp, q, A))) ⟨⟨hI, hL, hq, hga, hgc⟩, by show 2 - 2 < 2 - 1; decide⟩ ⟨rfl, rfl, rfl, rfl, rfl, trivial⟩ ?_
      show Ent _ [pts l [.slice (some ⟨rb, 0, none⟩) 2 2, .pointer none, .int .i64 0, .bool false], pts rb (Rg.v s0 q0 A0 ++ Rg.v sp q A), pts s0 (ptC 3 24 d), sl 1 A0.ia q0.img.length A0.ic (bsV q0.img), pts sp (ptC 27 24 d), sl 1 A.ia q.img.length A.ic (bsV q.img)]
      exact ent_pick
    · show G C _ [(0, .pointer (some ⟨p, 0, none⟩)), (1, .int .i64 2), (6, .pointer (some ⟨l, 0, none⟩)), (36, .int .i64 2), (37, .int .i64 2)] (loH d l rb (some ((s0, q0, A0), some (s1, q1, A1))))
      repeat (first | refine xst ?_ | refine xar ?_ | refine xop ?_ | refine xlen ?_ | refine xld rfl ?_ | refine xsto rfl ?_ | refine xno ?_ | refine xt ?_ | refine xf ?_ | refine xnu ?_)
      refine G.fin (some ((s0, q0, A0), some (s1, q1, A1))) ⟨hI, rfl⟩ ⟨rfl, rfl, rfl, trivial⟩ ?_
      exact Ent.refl _
  rintro x hI
  have hI : loI S x ∧ loN x = 2 := hI
  show G C _ [(0, .pointer (some ⟨p, 0, none⟩)), (1, .int .i64 2), (6, .pointer (some ⟨l, 0, none⟩))] (loH d l rb x)
  obtain ⟨hI, h2⟩ := hI
  rcases x with _ | ⟨⟨s0, q0, A0⟩, _ | ⟨s1, q1, A1⟩⟩
  · cases h2
  · cases h2
  obtain ⟨⟨hL0, hq0, hg0, hc0⟩, hL1, hq1, hg1, hc1⟩ := hI
  show G C _ [(0, .pointer (some ⟨p, 0, none⟩)), (1, .int .i64 2), (6, .pointer (some ⟨l, 0, none⟩))] [pts l [.slice (some ⟨rb, 0, none⟩) 2 2, .pointer none, .int .i64 0, .bool false], pts rb (Rg.v s0 q0 A0 ++ Rg.v s1 q1 A1), pts s0 (ptC 3 24 d), sl 1 A0.ia q0.img.length A0.ic (bsV q0.img), pts s1 (ptC 27 24 d), sl 1 A1.ia q1.img.length A1.ic (bsV q1.img)]
  repeat (first | refine xst ?_ | refine xar ?_ | refine xop ?_ | refine xlen ?_ | refine xld rfl ?_ | refine xsto rfl ?_ | refine xno ?_ | refine xt ?_ | refine xf ?_ | refine xnu ?_)
  refine xcall (psize_spec p 3 60 d) ?_
  rintro v H ⟨rfl, rfl⟩
  refine G.app ?_
  repeat (first | refine xst ?_ | refine xar ?_ | refine xop ?_ | refine xlen ?_ | refine xld rfl ?_ | refine xsto rfl ?_ | refine xno ?_ | refine xt ?_ | refine xf ?_ | refine xnu ?_)
  refine xcall (ppart_spec p 3 60 d 48 12 (by decide) (by decide) (by decide) (by decide)) ?_
  rintro v H ⟨s2, rfl, rfl⟩
  refine G.app ?_
  refine xrep 0 (ptC 51 12 d) rfl rfl ?_
  repeat (first | refine xst ?_ | refine xar ?_ | refine xop ?_ | refine xlen ?_ | refine xld rfl ?_ | refine xsto rfl ?_ | refine xno ?_ | refine xt ?_ | refine xf ?_ | refine xnu ?_)
  refine xcall (aopen_spec s2 51 12 d S ok hpw hp (by omega)) ?_
  rintro v H ⟨lp, rfl, rfl⟩
  refine G.app ?_
  repeat (first | refine xst ?_ | refine xar ?_ | refine xop ?_ | refine xlen ?_ | refine xld rfl ?_ | refine xsto rfl ?_ | refine xno ?_ | refine xt ?_ | refine xf ?_ | refine xnu ?_)
  refine G.sln 1 ?_
  refine xreH 0 (sl 1 A0.ga q0.got.length A0.gc (bsV q0.got)) rfl (by rw [hg0, hc0, hL0.2.2.2.1]; rfl) ?_
  refine G.sln 1 ?_
  refine xreH 0 (sl 1 A1.ga q1.got.length A1.gc (bsV q1.got)) rfl (by rw [hg1, hc1, hL1.2.2.2.1]; rfl) ?_
  obtain ⟨M, hM⟩ : ∃ M : Ld, M = ⟨fun i => if i = 0 then q0 else if i = 1 then q1 else Rg.new, logGo S 51 0 12, false, false⟩ := ⟨_, rfl⟩
  have h0 : M.r 0 = q0 := by rw [hM]; rfl
  have h1 : M.r 1 = q1 := by rw [hM]; rfl
  refine xrep 4 [.slice (some ⟨rb, 0, none⟩) 2 2, .pointer (some ⟨lp, 0, none⟩), .int .i64 12, .bool false] rfl rfl ?_
  refine xent [pts l (ldC rb lp M.dead), pts rb (Rg.v s0 (M.r 0) A0 ++ Rg.v s1 (M.r 1) A1), pts s2 (ptC 51 12 d), logH lp s2 M.es M.ldead, pts s0 (ptC 3 24 d), sl 1 A0.ia (M.r 0).img.length A0.ic (bsV (M.r 0).img), sl 1 A0.ga (M.r 0).got.length A0.gc (bsV (M.r 0).got), pts s1 (ptC 27 24 d), sl 1 A1.ia (M.r 1).img.length A1.ic (bsV (M.r 1).img), sl 1 A1.ga (M.r 1).got.length A1.gc (bsV (M.r 1).got)] (by rw [h0, h1, show M.es = logGo S 51 0 12 by rw [hM], show M.dead = false by rw [hM], show M.ldead = false by rw [hM]]; unfold ldC; exact ent_pick) ?_
  refine xfold (loaderH l d M) [0, 0, 0, 0, 0, 0, 0, 0, 0, 0] rfl loader_fold ?_
  refine xretp [0] ?_
  refine ⟨l, M, rfl, ⟨fun i => ?_, fun i => ?_, ?_, fun _ => by rw [hM]⟩, by rw [h0]; exact hL0, by rw [h1]; exact hL1, by rw [hM], by rw [hM], rfl⟩
  · rw [hM]; simp only; split
    · exact hq0
    · split
      · exact hq1
      · exact ⟨rfl, Nat.le_refl 1, Nat.zero_le _, Nat.zero_le _⟩
  · rw [hM]; simp only; split
    · rw [hL0.2.2.2.1]; exact Nat.zero_le _
    · split
      · rw [hL1.2.2.2.1]; exact Nat.zero_le _
      · exact Nat.zero_le _
  · rw [hM]; exact logGo_len S 51 0 12
end Go.Proofs.YtdalmiacjicgpaaGreatDoor

/- loader: plain laws, when the power is on. -/
namespace Go.Proofs.YtdalmiacjicgpaaGreatDoor
open Go.W

theorem progF_nil {m : Man} {bs : List UInt8} (h : progF m bs = []) : m.ok = true ∧ m.size = bs.length ∧ m.sum = shaF bs ∧ decF bs = [] := by
  unfold progF at h
  split at h
  · simp at h
  · rename_i h1
    split at h
    · simp at h
    · split at h
      · simp at h
      · split at h
        · simp at h
        · rename_i h2 h3 h4
          refine ⟨by simpa using h1, by omega, by simpa using (Classical.not_not.1 h4).symm, ?_⟩
          cases hd : decF bs with
          | nil => rfl
          | cons q r => rw [hd] at h; simp [inF] at h
theorem decF_nil {bs : List UInt8} (h : decF bs = []) : bs.length % 4 = 0 ∧ ckF (listI bs) = [] := by
  unfold decF at h
  split at h
  · simp at h
  · rename_i h1
    refine ⟨by omega, ?_⟩
    cases hc : ckF (listI bs) with
    | nil => rfl
    | cons q r => obtain ⟨c, x⟩ := q; rw [hc] at h; simp at h
theorem ckGo_code (n : Nat) : ∀ (l : List Ins) (at_ : Nat), ∀ q ∈ ckGo n at_ l, q.1 ≠ 0
  | [], _, q, h => by simp [ckGo] at h
  | i :: r, at_, q, h => by
    unfold ckGo at h
    split at h
    · simp at h; subst h; simp
    · split at h
      · simp at h; subst h; simp
      · exact ckGo_code n r (at_ + 1) q h
theorem ckF_code (l : List Ins) : ∀ q ∈ ckF l, q.1 ≠ 0 := by
  intro q h
  unfold ckF at h
  split at h
  · simp at h; subst h; simp
  · split at h
    · split at h
      · simp at h
      · simp at h; subst h; simp
    · exact ckGo_code _ _ _ q h

theorem decF_code (bs : List UInt8) : decF bs ≠ [] → codeF (decF bs) ≠ 0 := by
  intro h
  unfold decF at h ⊢
  split
  · simp [codeF]
  · rename_i h4
    rw [if_neg h4] at h
    cases hc : ckF (listI bs) with
    | nil => rw [hc] at h; exact absurd rfl h
    | cons q r =>
      obtain ⟨c, x⟩ := q
      have := ckF_code (listI bs) (c, x) (by rw [hc]; simp)
      simpa [codeF] using this
theorem progF_code (m : Man) (bs : List UInt8) : progF m bs ≠ [] → codeF (progF m bs) ≠ 0 := by
  intro h
  unfold progF at h ⊢
  split
  · simp [codeF]
  · rename_i h1
    rw [if_neg h1] at h
    split
    · simp [codeF]
    · rename_i h2
      rw [if_neg h2] at h
      split
      · simp [codeF]
      · rename_i h3
        rw [if_neg h3] at h
        split
        · simp [codeF]
        · rename_i h4
          rw [if_neg h4] at h
          have := decF_code bs
          cases hd : decF bs with
          | nil => rw [hd] at h; exact absurd rfl h
          | cons q r => obtain ⟨c, x⟩ := q; rw [hd] at this; exact this (by simp)
structure On (S : Dk) : Prop where
  on : S.off = false
  un : S.armed = false
  len : 63 ≤ S.sec.length
theorem pow_on {S : Dk} (h : On S) : S.pow = (true, S) := by unfold Dk.pow; rw [if_neg (by rw [h.on]; decide), if_pos h.un]
theorem write_on {S : Dk} (h : On S) {k : Nat} {b : List UInt8} (hk : k < S.sec.length) (hb : b.length = 64) : (S.write (k : Int) b).1 = 0 ∧ On (S.write (k : Int) b).2 := by
  unfold Dk.write
  have hh : S.has (k : Int) = true := by unfold Dk.has; rw [decide_eq_true (by omega), decide_eq_true (by omega)]; rfl
  rw [if_neg (by rw [hh]; decide), dif_pos hb, pow_on h, if_pos rfl]
  exact ⟨rfl, h.on, h.un, h.len⟩
theorem flush_on {S : Dk} (h : On S) : S.flush.1 = 0 ∧ On S.flush.2 := by
  have hl := flush_len S
  unfold Dk.flush at hl ⊢
  rw [pow_on h, if_pos rfl] at hl ⊢
  exact ⟨rfl, h.on, h.un, by have := h.len; simp only at hl ⊢; omega⟩
theorem pwrite_on {S : Dk} (h : On S) {f c k : Nat} {b : List UInt8} (hk : k < c) (hf : f + c ≤ S.sec.length) (hb : b.length = 64) : (pwriteF S f c (k : Int) b).1 = 0 ∧ On (pwriteF S f c (k : Int) b).2 := by
  unfold pwriteF
  rw [if_pos (by omega), show (f : Int) + (k : Int) = ((f + k : Nat) : Int) by omega]
  exact write_on h (by omega) hb
theorem wrGo_on {f : Nat} : ∀ (l : List (List UInt8)) (at_ : Nat) {S : Dk}, On S → f + 24 ≤ S.sec.length → at_ + l.length ≤ 24 → (∀ b ∈ l, b.length = 64) → (wrGo S f at_ l).1 = 0 ∧ On (wrGo S f at_ l).2
  | [], _, _, h, _, _, _ => ⟨rfl, h⟩
  | b :: r, at_, S, h, hf, hl, hb => by
    rw [List.length_cons] at hl
    obtain ⟨w1, w2⟩ := pwrite_on h (show at_ < 24 by omega) hf (hb b List.mem_cons_self)
    have w3 := pwrite_len S f 24 (at_ : Int) b
    unfold wrGo
    rw [if_neg (by rw [w1]; decide)]
    exact wrGo_on r (at_ + 1) w2 (by omega) (by omega) (fun c hc => hb c (List.mem_cons_of_mem _ hc))
theorem inst_on {S : Dk} (h : On S) {f : Nat} (hf : f + 24 ≤ S.sec.length) {gen : UInt32} {bank : Nat} {m : Man} {got : List UInt8} (hb : bank ≤ 1) (hg : got.length ≤ 512) (hL : ∀ b ∈ bankL (gen + 1) m got (pcN got.length), b.length = 64) (hH : (headB (gen + 1) (1 - bank)).length = 64) :
    (instF S f gen bank m got).1 = 0 ∧ On (instF S f gen bank m got).2 := by
  have hat : 2 + (1 - bank) * 11 + (bankL (gen + 1) m got (pcN got.length)).length ≤ 24 := by
    rw [bankL_len]
    have h1 : pcN got.length ≤ 10 := by unfold pcN; omega
    have h2 : 1 - bank ≤ 1 := by omega
    generalize 1 - bank = o at h2 ⊢
    omega
  obtain ⟨a1, a2⟩ := wrGo_on (f := f) (bankL (gen + 1) m got (pcN got.length)) (2 + (1 - bank) * 11) h hf hat hL
  have w3 : (wrGo S f (2 + (1 - bank) * 11) (bankL (gen + 1) m got (pcN got.length))).2.sec.length = S.sec.length := by
    have : ∀ (l : List (List UInt8)) (at_ : Nat) (S : Dk), (wrGo S f at_ l).2.sec.length = S.sec.length := fun l => by
      induction l with
      | nil => intro _ _; rfl
      | cons b r ih =>
        intro at_ S
        unfold wrGo
        split
        · exact pwrite_len _ _ _ _ _
        · rw [ih]; exact pwrite_len _ _ _ _ _
    exact this _ _ _
  unfold instF
  simp only
  generalize wrGo S f (2 + (1 - bank) * 11) (bankL (gen + 1) m got (pcN got.length)) = r1 at a1 a2 w3 ⊢
  rw [if_neg (by rw [a1]; decide)]
  obtain ⟨b1, b2⟩ := flush_on a2
  have b3 := flush_len r1.2
  rw [if_neg (by rw [b1]; decide)]
  obtain ⟨c1, c2⟩ := pwrite_on b2 (f := f) (c := 24) (k := (gen + 1).toNat % 2) (b := headB (gen + 1) (1 - bank)) (by omega) (by omega) hH
  rw [if_neg (by rw [c1]; decide)]
  exact flush_on c2
theorem add_on {S : Dk} (h : On S) {es : List Ntr} (he : es.length < 12) (x : Ntr) : (addF S 51 12 es x).1 = 0 ∧ On (addF S 51 12 es x).2.1 ∧ (addF S 51 12 es x).2.2.1 = es ++ [x] ∧ (addF S 51 12 es x).2.2.2 = false := by
  obtain ⟨a1, a2⟩ := pwrite_on h (f := 51) (c := 12) (k := es.length) (b := x.sec es.length) he (by have := h.len; omega) (Ntr.sec_len _ _)
  obtain ⟨b1, b2⟩ := flush_on a2
  unfold addF
  simp only
  rw [if_pos a1, if_pos b1]
  exact ⟨rfl, b2, rfl, rfl⟩
theorem fin_on {M : Ld} {S : Dk} (h : On S) (p : Nat) (q' : Rg) (x : Ntr) (he : M.es.length < 12) : ∃ S', finF M S p q' x = (x.code, { M.set p q' with es := M.es ++ [x], ldead := false }, S') ∧ On S' := by
  obtain ⟨a1, a2, a3, a4⟩ := add_on h he x
  refine ⟨_, ?_, a2⟩
  unfold finF
  rw [if_neg (by rw [a1]; decide), a3, a4]
theorem bank_64 (g : UInt32) (m : Man) (got : List UInt8) (n : Nat) (hs : m.sum.length = 32) : ∀ b ∈ bankL g m got n, b.length = 64 := by
  induction n with
  | zero => intro b hb; obtain rfl := List.mem_singleton.1 hb; exact firstB_len g hs
  | succ n ih =>
    intro b hb
    rcases List.mem_append.1 hb with hb | hb
    · exact ih b hb
    · obtain rfl := List.mem_singleton.1 hb
      exact dataB_len g n (by unfold pcB; rw [List.length_take]; omega)
/-- Install, when the power is on. -/
theorem install_on {M : Ld} (ok : M.ok) {S : Dk} (h : On S) {k : Int} {p : Nat} (hk : pnF k = some p) {q : Rg} (hq : M.r p = q) (hd : M.dead = false) (hst : q.staged = true) (he : M.es.length < 12) (hg : q.gen.toNat ≠ 4294967295) :
    ∃ S', On S' ∧ installF M S k = if progF q.mf q.got ≠ [] then (codeF (progF q.mf q.got), { M.set p q.unst with es := M.es ++ [⟨2, p, q.mf.ver, codeF (progF q.mf q.got)⟩], ldead := false }, S')
      else (0, { M.set p (instQ q.unst q.mf q.got 0) with es := M.es ++ [⟨1, p, q.mf.ver, 0⟩], ldead := false }, S') := by
  have hp := (pn_some hk).1
  have e : installF M S k = installP M S p q := by unfold installF; rw [if_neg (by rw [hd]; decide), hk, ← hq]
  rw [e]
  unfold installP
  rw [if_neg (by rw [hst]; decide), if_neg (by omega)]
  split
  · obtain ⟨S', h1, h2⟩ := fin_on h p q.unst ⟨2, p, q.mf.ver, codeF (progF q.mf q.got)⟩ he
    exact ⟨S', h2, h1⟩
  · rename_i hpf
    have hpf : progF q.mf q.got = [] := Classical.not_not.1 hpf
    obtain ⟨hok, hsz, hsum, hdc⟩ := progF_nil hpf
    obtain ⟨z, hz, hz4, hz5⟩ := Man.ok_size hok
    have hqok := ok.r p
    rw [hq] at hqok
    obtain ⟨i1, i2⟩ := inst_on h (f := 3 + 24 * p) (by have := h.len; omega) (gen := q.gen) (bank := q.bank) (m := q.mf) (got := q.got) hqok.2.1 (by omega) (bank_64 _ _ _ _ hqok.1) (headB_len _ _)
    rw [if_neg (by rw [i1]; decide)]
    obtain ⟨S', h1, h2⟩ := fin_on i2 p (instQ q.unst q.mf q.got 0) ⟨1, p, q.mf.ver, 0⟩ he
    exact ⟨S', h2, h1⟩
end Go.Proofs.YtdalmiacjicgpaaGreatDoor

/- loader: a new disk; what an image comes to. -/
namespace Go.Proofs.YtdalmiacjicgpaaGreatDoor
open Go.W

theorem get_new (k : Nat) : ((Dk.new 80).get k).1 = List.replicate 64 0 := by
  have h : (Dk.new 80).get k = Sec.zero := by
    show (List.replicate 80 Sec.zero).getD k Sec.zero = Sec.zero
    rw [List.getD_eq_getElem?_getD, List.getElem?_replicate]
    split <;> rfl
  rw [h]; rfl
theorem open_zero : openF (List.replicate 64 0) = none := by kernel_rfl
theorem head_zero (k : Nat) : headF k (List.replicate 64 0) = none := by unfold headF; rw [open_zero]
theorem ent_zero (k : Nat) : entF k (List.replicate 64 0) = none := by unfold entF; rw [open_zero]
theorem hd_new (f : Nat) : hdF (Dk.new 80) f = (0, 1) := by unfold hdF; rw [get_new, get_new, head_zero, head_zero]; rfl
theorem log_new : logGo (Dk.new 80) 51 0 12 = [] := by unfold logGo; rw [get_new, ent_zero]
theorem load_new {f p : Nat} {q : Rg} (h : LoadR (Dk.new 80) f p q) : q = Rg.new := by
  obtain ⟨h1, h2, h3, h4, h5⟩ := h
  rw [hd_new] at h1
  have hg : q.gen = 0 := congrArg Prod.fst h1
  have hb : q.bank = 1 := congrArg Prod.snd h1
  rcases h5 with ⟨_, h5, _⟩ | ⟨h5, h6, h7, _⟩
  · exact absurd hg h5
  · obtain ⟨gen, bank, has, img, ver, staged, mf, got⟩ := q
    simp only at hg hb h2 h3 h4 h5 h6 h7
    subst hg hb h2 h3 h4 h5 h6 h7
    rfl
theorem on_new : On (Dk.new 80) := ⟨rfl, rfl, by decide⟩
theorem ok_new : (Dk.new 80).ok := ⟨by decide, fun w h => by cases h⟩

def ofM (k : Int) (v : UInt32) (b : List UInt8) : Man := ⟨k, v, b.length, shaF b⟩
def haltB : List UInt8 := [0, 0, 0, 0]
theorem ofM_sum (k : Int) (v : UInt32) (b : List UInt8) : (ofM k v b).sum.length = 32 := shaF_len _
theorem set_same {M : Ld} {p : Nat} {q : Rg} : (M.set p q).r p = q := by unfold Ld.set; simp
theorem set_set {M : Ld} {p : Nat} {q q' : Rg} : (M.set p q).set p q' = M.set p q' := by
  unfold Ld.set
  simp only [Ld.mk.injEq, and_true]
  funext i
  split <;> rfl
theorem set_other {M : Ld} {p i : Nat} {q : Rg} (h : i ≠ p) : (M.set p q).r i = M.r i := by unfold Ld.set; simp [h]
/-- Begin, and a chunk that is all of it. -/
theorem put_begin {M : Ld} {k : Int} {p : Nat} (hk : pnF k = some p) {q : Rg} (hq : M.r p = q) {v : UInt32} {b : List UInt8} (hm : (ofM k v b).ok = true) (hv : ¬ (q.has = true ∧ v.toNat ≤ q.ver.toNat)) :
    beginF M (ofM k v b) = (0, M.set p { q with staged := true, mf := ofM k v b, got := [] }) ∧
    chunkF (M.set p { q with staged := true, mf := ofM k v b, got := [] }) k 0 b = (0, M.set p { q with staged := true, mf := ofM k v b, got := b }) := by
  constructor
  · unfold beginF
    rw [if_pos hm, show (ofM k v b).part = k from rfl, hk]
    show (if (M.r p).has = true ∧ v.toNat ≤ (M.r p).ver.toNat then (4, M) else _) = _
    rw [hq, if_neg hv]
  · have hc : chunkC (ofM k v b) 0 0 b.length = 0 := by
      unfold chunkC
      have hz : (ofM k v b).size = b.length := rfl
      rw [hm, hz]
      rw [if_neg (by rintro (h | h); cases h; omega), if_neg (by simp), if_neg (by omega)]
    unfold chunkF
    rw [hk]
    simp only
    rw [set_same]
    show (if true = true then (if chunkC (ofM k v b) 0 0 b.length = 0 then _ else _) else _) = _
    rw [if_pos rfl, if_pos hc, set_set]
    rfl
theorem put_law {M : Ld} (ok : M.ok) {S : Dk} (h : On S) {k : Int} {p : Nat} (hk : pnF k = some p) {q : Rg} (hq : M.r p = q) (hd : M.dead = false) (he : M.es.length < 12) (hg : q.gen.toNat ≠ 4294967295) {v : UInt32} {b : List UInt8} (hm : (ofM k v b).ok = true) :
    ∃ S', On S' ∧ installF (M.set p { q with staged := true, mf := ofM k v b, got := b }) S k =
      if progF (ofM k v b) b ≠ [] then (codeF (progF (ofM k v b) b), { M.set p q.unst with es := M.es ++ [⟨2, k, v, codeF (progF (ofM k v b) b)⟩], ldead := false }, S')
      else (0, { M.set p (instQ q.unst (ofM k v b) b 0) with es := M.es ++ [⟨1, k, v, 0⟩], ldead := false }, S') := by
  have hqok := ok.r p
  rw [hq] at hqok
  obtain ⟨z, hz, hz4, hz5⟩ := Man.ok_size hm
  have hz : (b.length : Int) = z := hz
  have ok2 : (M.set p { q with staged := true, mf := ofM k v b, got := b }).ok := ok.set ⟨ofM_sum _ _ _, hqok.2.1, hqok.2.2.1, by show b.length ≤ _; omega⟩ (by show b.length ≤ _; omega)
  obtain ⟨S', h1, h2⟩ := install_on ok2 h hk (q := { q with staged := true, mf := ofM k v b, got := b }) set_same hd rfl he hg
  refine ⟨S', h1, ?_⟩
  obtain ⟨_, rfl⟩ := pn_some hk
  rw [h2]
  show (if progF (ofM p v b) b ≠ [] then _ else _) = _
  split
  · rw [set_set]; rfl
  · rw [set_set]; rfl
theorem halt_prog (k : Int) (v : UInt32) (hk : 0 ≤ k ∧ k < 8) : (ofM k v haltB).ok = true ∧ progF (ofM k v haltB) haltB = [] := by
  have hok : (ofM k v haltB).ok = true := by unfold Man.ok ofM; rw [decide_eq_true_eq]; exact ⟨hk.1, hk.2, (by decide : (4 : Int) ≤ 4), (by decide : (4 : Int) ≤ 512), (by decide : (4 : Int).tmod 4 = 0)⟩
  refine ⟨hok, ?_⟩
  have hsz : (ofM k v haltB).size = 4 := rfl
  unfold progF
  rw [hok, hsz]
  rw [if_neg (by decide), if_neg (by decide), if_neg (by decide), if_neg (by exact fun h => h rfl)]
  rfl
/-- An image of one Halt, in a new store. -/
theorem first_law {M : Ld} (ok : M.ok) {S : Dk} (h : On S) {k : Int} {p : Nat} (hk : pnF k = some p) (hq : M.r p = Rg.new) (hd : M.dead = false) (he : M.es = []) (v : UInt32) :
    ∃ B1 C1 M2 S2, beginF M (ofM k v haltB) = (0, B1) ∧ chunkF B1 k 0 haltB = (0, C1) ∧ installF C1 S k = (0, M2, S2) ∧ On S2 ∧
      M2.r p = { Rg.new with gen := 1, bank := 0, has := true, img := haltB, ver := v } ∧ M2.es = [⟨1, k, v, 0⟩] ∧ M2.dead = false ∧ (∀ i, i ≠ p → M2.r i = M.r i) := by
  have hp := pn_some hk
  obtain ⟨hm, hpf⟩ := halt_prog k v (by omega)
  obtain ⟨b1, b2⟩ := put_begin (b := haltB) (v := v) hk hq hm (by rintro ⟨h, _⟩; cases h)
  obtain ⟨S', s1, s2⟩ := put_law (b := haltB) (v := v) ok h hk hq hd (by rw [he]; decide) (by decide) hm
  rw [if_neg (by rw [hpf]; exact fun h => h rfl)] at s2
  exact ⟨_, _, _, _, b1, b2, s2, s1, set_same, by rw [he]; rfl, hd, fun i hi => set_other hi⟩
theorem awake_law {M : Ld} (ok : M.ok) {S : Dk} (h : On S) (hq : M.r 1 = Rg.new) (hd : M.dead = false) (he : M.es = []) :
    ∃ B1 C1 M2 S2, beginF M (ofM 1 7 haltB) = (0, B1) ∧ chunkF B1 1 0 haltB = (0, C1) ∧ installF C1 S 1 = (0, M2, S2) ∧
      (M2.r 1).has = true ∧ (M2.r 1).img = haltB ∧ (M2.r 1).ver = 7 ∧ (M2.r 1).gen = 1 ∧ M2.es = [⟨1, 1, 7, 0⟩] ∧ beginF M2 (ofM 1 7 haltB) = (4, M2) := by
  obtain ⟨B1, C1, M2, S2, b1, b2, b3, b4, b5, b6, b7, b8⟩ := first_law ok h (k := 1) (p := 1) rfl hq hd he 7
  refine ⟨B1, C1, M2, S2, b1, b2, b3, by rw [b5], by rw [b5], by rw [b5], by rw [b5], b6, ?_⟩
  unfold beginF
  rw [if_pos (halt_prog 1 7 (by decide)).1, show pnF (ofM 1 7 haltB).part = some 1 from rfl]
  simp only
  rw [b5, if_pos ⟨rfl, Nat.le_refl _⟩]
theorem rises_law {M : Ld} (ok : M.ok) {S : Dk} (Sok : S.ok) (h : On S) (hq : M.r 0 = Rg.new) (hd : M.dead = false) (he : M.es = []) (one two : UInt32) (bs : List UInt8) :
    ∃ B1 C1 M2 S2 f B2 c C2 g M3 S3, beginF M (ofM 0 one haltB) = (0, B1) ∧ chunkF B1 0 0 haltB = (0, C1) ∧ installF C1 S 0 = (0, M2, S2) ∧
      beginF M2 (ofM 0 two bs) = (f, B2) ∧ chunkF B2 0 0 bs = (c, C2) ∧ installF C2 S2 0 = (g, M3, S3) ∧ (M3.r 0).has = true ∧
      (f ≠ 0 → (M3.r 0).img = haltB ∧ (M3.r 0).ver = one ∧ g = 6 ∧ (f = 4 ∧ two.toNat ≤ one.toNat ∨ f = 1)) ∧
      (f = 0 → ¬ two.toNat ≤ one.toNat ∧ (g = 0 → (M3.r 0).img = bs ∧ (M3.r 0).ver = two) ∧ (g ≠ 0 → (M3.r 0).img = haltB ∧ (M3.r 0).ver = one)) := by
  obtain ⟨B1, C1, M2, S2, b1, b2, b3, b4, b5, b6, b7, b8⟩ := first_law ok h (k := 0) (p := 0) rfl hq hd he one
  have ok2 : M2.ok := by
    have k1 := begin_ok ok (ofM_sum 0 one haltB)
    rw [b1] at k1
    have k2 := chunk_ok k1 0 0 haltB
    rw [show chunkF (0, B1).2 0 0 haltB = (0, C1) from b2] at k2
    have k3 := (linst_ok k2 Sok 0).1
    rw [show installF (0, C1).2 S 0 = (0, M2, S2) from b3] at k3
    exact k3
  have hne : (M2.r 0).staged = false := by rw [b5]; rfl
  have hno : chunkF M2 0 0 bs = (6, M2) ∧ installF M2 S2 0 = (6, M2, S2) := by
    constructor
    · unfold chunkF
      rw [show pnF 0 = some 0 from rfl]
      simp only
      rw [if_neg (by rw [hne]; decide)]
    · unfold installF
      rw [if_neg (by rw [b7]; decide), show pnF 0 = some 0 from rfl]
      simp only
      unfold installP
      rw [if_pos hne]
  by_cases hm : (ofM 0 two bs).ok = true
  · by_cases hv : two.toNat ≤ one.toNat
    · refine ⟨B1, C1, M2, S2, 4, M2, 6, M2, 6, M2, S2, b1, b2, b3, ?_, hno.1, hno.2, by rw [b5], fun _ => ⟨by rw [b5], by rw [b5], rfl, .inl ⟨rfl, hv⟩⟩, fun h => by cases h⟩
      unfold beginF
      rw [if_pos hm, show pnF (ofM 0 two bs).part = some 0 from rfl]
      simp only
      rw [b5, if_pos ⟨rfl, hv⟩]
    · obtain ⟨c1, c2⟩ := put_begin (M := M2) (k := 0) (p := 0) (b := bs) (v := two) rfl b5 hm (by rintro ⟨_, h⟩; exact hv h)
      obtain ⟨S', s1, s2⟩ := put_law (b := bs) (v := two) ok2 b4 (k := 0) (p := 0) rfl b5 b7 (by rw [b6]; exact (by decide : 1 < 12)) (show (1 : UInt32).toNat ≠ 4294967295 by decide) hm
      by_cases hpf : progF (ofM 0 two bs) bs ≠ []
      · rw [if_pos hpf] at s2
        refine ⟨B1, C1, M2, S2, 0, _, 0, _, _, _, _, b1, b2, b3, c1, c2, s2, ?_, fun h => absurd rfl h, fun _ => ⟨hv, fun h => absurd h (progF_code _ _ hpf), fun _ => ⟨?_, ?_⟩⟩⟩
        · show ((M2.set 0 _).r 0).has = true; rw [set_same]; rfl
        · show ((M2.set 0 _).r 0).img = haltB; rw [set_same]; rfl
        · show ((M2.set 0 _).r 0).ver = one; rw [set_same]; rfl
      · rw [if_neg hpf] at s2
        refine ⟨B1, C1, M2, S2, 0, _, 0, _, _, _, _, b1, b2, b3, c1, c2, s2, ?_, fun h => absurd rfl h, fun _ => ⟨hv, fun _ => ⟨?_, ?_⟩, fun h => absurd rfl h⟩⟩
        · show ((M2.set 0 _).r 0).has = true; rw [set_same]; rfl
        · show ((M2.set 0 _).r 0).img = bs; rw [set_same]; rfl
        · show ((M2.set 0 _).r 0).ver = two; rw [set_same]; rfl
  · refine ⟨B1, C1, M2, S2, 1, M2, 6, M2, 6, M2, S2, b1, b2, b3, ?_, hno.1, hno.2, by rw [b5], fun _ => ⟨by rw [b5], by rw [b5], rfl, .inr rfl⟩, fun h => by cases h⟩
    unfold beginF
    rw [if_neg hm]
end Go.Proofs.YtdalmiacjicgpaaGreatDoor
