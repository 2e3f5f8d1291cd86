/- Part of the proof: LMu, LMv, LCm -/
import Derived.Test.YtdalmiacjicgpaaGreatDoorK11
import Derived.Test.YtdalmiacjicgpaaGreatDoorK3
import Derived.Test.YtdalmiacjicgpaaGreatDoorK2
import Derived.Test.YtdalmiacjicgpaaGreatDoorRows
import Derived.Test.YtdalmiacjicgpaaGreatDoorTie
import Derived.Test.YtdalmiacjicgpaaGreatDoorCards
import Derived.LaidHandle
/- nacellelaw21: store, few, halt, awake. -/
namespace Go.Proofs.YtdalmiacjicgpaaGreatDoor
open Go.W

section
variable {fn : Func} {rd : List HProp} {post : Post} {C : Ctx pg fn rd post} {all : Array Oper} {K : List It} {L : Env} {H : List HProp}
/-- The one that is ready acts; what is held is held on. -/
theorem xdactJ {f : Nat} (i : Nat) {listed listed' : List Bool} {J : Held} {o : Oper} (g : G C (.ops all [o] :: anyI C all f listed' J K :: K) L H) [hj : JOk C H J] (ho : all[i]? = some o := by rfl) (hr : Region.ready .any all listed.toArray = [i] := by kernel_rfl)
    (hset : setL i listed = some listed' := by rfl) : G C (anyI C all (f + 1) listed J K :: K) L H :=
  G.dacts hr fun q hq => by
    obtain rfl := List.mem_singleton.1 hq
    exact ⟨o, listed', J, ho, hset, .inr rfl, g⟩
end
theorem subA_zero (a : Option Addr) (sz cap : Nat) : subA a 0 sz cap = a := by
  unfold subA
  split
  · rfl
  · cases a with
    | none => rfl
    | some a => simp [Addr.add]
theorem RS.headB {fn : Func} {rd : List HProp} {post : Post} {C : Ctx pg fn rd post} {a : Option Addr} {n cap : Nat} {bs : List UInt8} (h : RS C 1 a n cap (bsV bs)) {m : Nat} (hm : m ≤ n) : RS C 1 a m cap (bsV (bs.take m)) := by
  have := RS.subB h (Nat.zero_le m) hm
  rw [subA_zero] at this
  simpa using this

theorem eq_ntr : EqK pg 61 ty61 :=
  ⟨EqT.str (d := 9999) ok61 rfl (by kernel_rfl) (by kernel_rfl) ⟨rfl, _, ok3, .inr rfl, EqT.int ok3 rfl rfl 9998, by decide, rfl, _, ok3, .inr rfl, EqT.int ok3 rfl rfl 9998, by decide, rfl, _, ok22, .inr rfl, EqT.int ok22 rfl rfl 9998, by decide, rfl, _, ok3, .inr rfl, EqT.int ok3 rfl rfl 9998, by decide, rfl⟩, rfl, by kernel_rfl⟩
theorem sameNtr (x y : Ntr) : SameK x.v y.v := ⟨⟨_, _, _, rfl, rfl⟩, ⟨_, _, _, rfl, rfl⟩, ⟨_, _, _, rfl, rfl⟩, ⟨_, _, _, rfl, rfl⟩, trivial⟩
theorem store_spec : Fun Tryz.prog 9 [] [] [] fun v H => ∃ d p : Nat, v = .tuple #[.pointer (some ⟨d, 0, none⟩), .pointer (some ⟨p, 0, none⟩), .bool true] ∧ H = [diskH d (Dk.new 80), pts p (ptC 3 60 d)] := by
  refine xenter (p := pg) Tryz.call9 Tryz.func9 fun C => ?_
  repeat (first | refine xst ?_ | refine xar ?_ | refine xop ?_ | refine xlen ?_ | refine xld rfl ?_ | refine xsto rfl ?_ | refine xno ?_ | refine xt ?_ | refine xf ?_ | refine xnu ?_)
  refine xcall (dnew_spec 80 (by decide) (by decide)) ?_
  rintro v H ⟨d, rfl, rfl⟩
  refine G.app ?_
  repeat (first | refine xst ?_ | refine xar ?_ | refine xop ?_ | refine xlen ?_ | refine xld rfl ?_ | refine xsto rfl ?_ | refine xno ?_ | refine xt ?_ | refine xf ?_ | refine xnu ?_)
  refine xcall (xnewe_spec d (Dk.new 80) ok_new 3 60 (by decide) (by decide)) ?_
  rintro v H ⟨p, rfl, rfl⟩
  refine G.app ?_
  repeat (first | refine xst ?_ | refine xar ?_ | refine xop ?_ | refine xlen ?_ | refine xld rfl ?_ | refine xsto rfl ?_ | refine xno ?_ | refine xt ?_ | refine xf ?_ | refine xnu ?_)
  refine xretp [1, 0] ?_
  exact ⟨d, p, rfl, rfl⟩
theorem halt_spec : Fun Tryz.prog 13 [] [] [] fun v H => ∃ b : Nat, v = .slice (some ⟨b, 0, none⟩) 4 4 ∧ H = [sl 1 (some ⟨b, 0, none⟩) 4 4 (bsV haltB)] := by
  refine xenter (p := pg) Tryz.call13 Tryz.func13 fun C => ?_
  repeat (first | refine xst ?_ | refine xar ?_ | refine xop ?_ | refine xlen ?_ | refine xld rfl ?_ | refine xsto rfl ?_ | refine xno ?_ | refine xt ?_ | refine xf ?_ | refine xnu ?_)
  refine xbsl fun b => ?_
  refine xslc 0 1 4 (bsV haltB) rfl rfl rfl ?_
  repeat (first | refine xst ?_ | refine xar ?_ | refine xop ?_ | refine xlen ?_ | refine xld rfl ?_ | refine xsto rfl ?_ | refine xno ?_ | refine xt ?_ | refine xf ?_ | refine xnu ?_)
  refine xretp [0] ?_
  exact ⟨b, rfl, rfl⟩
theorem few_spec (a : Option Addr) (n cap : Nat) (hc : n ≤ cap) : Fun Tryz.prog 16 [.slice a n cap] [] [] fun v H => v = .slice a (min n 600) cap ∧ H = [] := by
  refine xenter (p := pg) Tryz.call16 Tryz.func16 fun C => ?_
  repeat (first | refine xst ?_ | refine xar ?_ | refine xop ?_ | refine xlen ?_ | refine xld rfl ?_ | refine xsto rfl ?_ | refine xno ?_ | refine xt ?_ | refine xf ?_ | refine xnu ?_)
  refine xd (fun h => ?_) (fun h => ?_)
  · repeat (first | refine xst ?_ | refine xar ?_ | refine xop ?_ | refine xlen ?_ | refine xld rfl ?_ | refine xsto rfl ?_ | refine xno ?_ | refine xt ?_ | refine xf ?_ | refine xnu ?_)
    refine xslice 0 600 rfl rfl rfl (by omega) (by omega) ?_
    refine xE 7 (.slice a 600 cap) rfl ?_ ?_
    · rw [subA_zero]; rfl
    repeat (first | refine xst ?_ | refine xar ?_ | refine xop ?_ | refine xlen ?_ | refine xld rfl ?_ | refine xsto rfl ?_ | refine xno ?_ | refine xt ?_ | refine xf ?_ | refine xnu ?_)
    refine xret [] ⟨?_, rfl⟩
    rw [Nat.min_eq_right (by omega)]; rfl
  · repeat (first | refine xst ?_ | refine xar ?_ | refine xop ?_ | refine xlen ?_ | refine xld rfl ?_ | refine xsto rfl ?_ | refine xno ?_ | refine xt ?_ | refine xf ?_ | refine xnu ?_)
    refine xret [] ⟨?_, rfl⟩
    rw [Nat.min_eq_left (by omega)]; rfl
set_option maxHeartbeats 2000000 in
theorem awake_spec : Fun Tryz.prog 18 [] [gNib, gErr, kV, iniV] [] fun v H => v = .bool true ∧ H = [] := by
  refine xenter (p := pg) Tryz.call18 Tryz.func18 fun C => ?_
  haveI : RP C gNib := RP.of C (by simp)
  haveI : RP C gErr := RP.of C (by simp)
  haveI : RP C kV := RP.of C (by simp)
  haveI : RP C iniV := RP.of C (by simp)
  repeat (first | refine xst ?_ | refine xar ?_ | refine xop ?_ | refine xlen ?_ | refine xld rfl ?_ | refine xsto rfl ?_ | refine xno ?_ | refine xt ?_ | refine xf ?_ | refine xnu ?_)
  refine xcall (store_spec) ?_
  rintro v H ⟨d, p, rfl, rfl⟩
  refine G.app ?_
  repeat (first | refine xst ?_ | refine xar ?_ | refine xop ?_ | refine xlen ?_ | refine xld rfl ?_ | refine xsto rfl ?_ | refine xno ?_ | refine xt ?_ | refine xf ?_ | refine xnu ?_)
  refine xcall (lopen_spec p d (Dk.new 80) ok_new rfl (by decide) (by decide)) ?_
  rintro v H ⟨l, M, rfl, ok, hr0, hr1, hes, hdead, rfl⟩
  refine G.app ?_
  have hr1 := load_new hr1
  rw [log_new] at hes
  obtain ⟨B1, C1, M2, S2, b1, b2, b3, f1, f2, f3, f4, f5, f6⟩ := awake_law ok on_new hr1 hdead hes
  have ok1 := begin_ok ok (ofM_sum 1 7 haltB)
  rw [b1] at ok1
  have ok2 := chunk_ok ok1 1 0 haltB
  rw [show chunkF (0, B1).2 1 0 haltB = (0, C1) from b2] at ok2
  obtain ⟨ok3, Sok3, _, _⟩ := linst_ok ok2 ok_new 1
  rw [show installF (0, C1).2 (Dk.new 80) 1 = (0, M2, S2) from b3] at ok3 Sok3
  obtain ⟨m, hm⟩ : ∃ m, m = ofM 1 7 haltB := ⟨_, rfl⟩
  have hs : m.sum.length = 32 := by rw [hm]; exact ofM_sum 1 7 haltB
  have hml := Man.v_len hs
  rw [← hm] at b1 f6
  repeat (first | refine xst ?_ | refine xar ?_ | refine xop ?_ | refine xlen ?_ | refine xld rfl ?_ | refine xsto rfl ?_ | refine xno ?_ | refine xt ?_ | refine xf ?_ | refine xnu ?_)
  refine xcall (halt_spec) ?_
  rintro v H ⟨hb, rfl, rfl⟩
  refine G.app ?_
  repeat (first | refine xst ?_ | refine xar ?_ | refine xop ?_ | refine xlen ?_ | refine xld rfl ?_ | refine xsto rfl ?_ | refine xno ?_ | refine xt ?_ | refine xf ?_ | refine xnu ?_)
  refine xcall (of_spec 1 7 (some ⟨hb, 0, none⟩) 4 4 haltB rfl (by decide)) ?_
  rintro v H ⟨hv, rfl⟩
  rw [show (⟨1, 7, haltB.length, shaF haltB⟩ : Man) = m from hm.symm] at hv
  subst hv
  refine G.app ?_
  repeat (first | refine xst ?_ | refine xar ?_ | refine xop ?_ | refine xlen ?_ | refine xld rfl ?_ | refine xsto rfl ?_ | refine xno ?_ | refine xt ?_ | refine xf ?_ | refine xnu ?_)
  refine xnew fun mb => ?_
  refine xsta (cs := m.v) rfl hml m.v_one m.v (put_all (by rw [hml]; rfl)) (by rw [hml]; exact Nat.le_of_ble_eq_true rfl) ?_
  repeat (first | refine xst ?_ | refine xar ?_ | refine xop ?_ | refine xlen ?_ | refine xld rfl ?_ | refine xsto rfl ?_ | refine xno ?_ | refine xt ?_ | refine xf ?_ | refine xnu ?_)
  refine xld rfl ?_ (hv := partF_all rfl hml)
  refine xcall (lbegin_spec l d M ok m hs) ?_
  rintro v H ⟨rfl, rfl⟩
  refine G.app ?_
  refine xE 32 (.int .i64 0) rfl (by rw [b1]) ?_
  refine xreH 0 (loaderH l d B1) rfl (by rw [b1]) ?_
  repeat (first | refine xst ?_ | refine xar ?_ | refine xop ?_ | refine xlen ?_ | refine xld rfl ?_ | refine xsto rfl ?_ | refine xno ?_ | refine xt ?_ | refine xf ?_ | refine xnu ?_)
  refine xcall (halt_spec) ?_
  rintro v H ⟨hb2, rfl, rfl⟩
  refine G.app ?_
  repeat (first | refine xst ?_ | refine xar ?_ | refine xop ?_ | refine xlen ?_ | refine xld rfl ?_ | refine xsto rfl ?_ | refine xno ?_ | refine xt ?_ | refine xf ?_ | refine xnu ?_)
  refine xcall (lchunk_spec l d B1 ok1 1 0 (some ⟨hb2, 0, none⟩) 4 4 haltB rfl (by decide)) ?_
  rintro v H ⟨rfl, rfl⟩
  refine G.app ?_
  refine xE 35 (.int .i64 0) rfl (by rw [b2]) ?_
  refine xreH 0 (loaderH l d C1) rfl (by rw [b2]) ?_
  repeat (first | refine xst ?_ | refine xar ?_ | refine xop ?_ | refine xlen ?_ | refine xld rfl ?_ | refine xsto rfl ?_ | refine xno ?_ | refine xt ?_ | refine xf ?_ | refine xnu ?_)
  refine xcall (linstall_spec l d C1 ok2 (Dk.new 80) ok_new (by decide) 1) ?_
  rintro v H ⟨rfl, rfl⟩
  refine G.app ?_
  refine xE 37 (.int .i64 0) rfl (by rw [b3]) ?_
  refine xreH 0 (loaderH l d M2) rfl (by rw [b3]) ?_
  refine xreH 1 (diskH d S2) rfl (by rw [b3]) ?_
  repeat (first | refine xst ?_ | refine xar ?_ | refine xop ?_ | refine xlen ?_ | refine xld rfl ?_ | refine xsto rfl ?_ | refine xno ?_ | refine xt ?_ | refine xf ?_ | refine xnu ?_)
  refine xcall (active_spec l d M2 ok3 1 (some 1) rfl) ?_
  rintro v H h
  have h : (if (M2.r 1).has = true then actH (M2.r 1) v H else v = actN ∧ H = []) := h
  rw [if_pos f1] at h
  obtain ⟨aa, ac, rfl, rfl⟩ := h
  rw [f2, f3]
  refine G.app ?_
  repeat (first | refine xst ?_ | refine xar ?_ | refine xop ?_ | refine xlen ?_ | refine xld rfl ?_ | refine xsto rfl ?_ | refine xno ?_ | refine xt ?_ | refine xf ?_ | refine xnu ?_)
  refine xcall (lentries_spec l d M2 ok3) ?_
  rintro v H ⟨ea, ec, rfl, rfl⟩
  refine G.app ?_
  rw [f5]
  refine xslf 0 rfl fun _ he1 he2 => ?_
  obtain ⟨eb, eo, rfl⟩ := he2 (by exact Nat.lt_of_lt_of_le (by decide) he1)
  repeat (first | refine xst ?_ | refine xar ?_ | refine xop ?_ | refine xlen ?_ | refine xld rfl ?_ | refine xsto rfl ?_ | refine xno ?_ | refine xt ?_ | refine xf ?_ | refine xnu ?_)
  refine xdraw ?_
  refine xdop 0 ?_
  refine xdop 1 ?_
  refine xdop 2 ?_
  (first | refine xdno 3 ?_ | refine xdop 3 ?_ | refine xdnu 3 ?_)
  (first | refine xdno 4 ?_ | refine xdop 4 ?_ | refine xdnu 4 ?_)
  refine xdop 5 ?_
  refine xdop 6 ?_
  (first | refine xdno 7 ?_ | refine xdop 7 ?_ | refine xdnu 7 ?_)
  (first | refine xdno 8 ?_ | refine xdop 8 ?_ | refine xdnu 8 ?_)
  refine xdop 9 ?_
  refine xdop 10 ?_
  (first | refine xdno 11 ?_ | refine xdop 11 ?_ | refine xdnu 11 ?_)
  refine xdcst 12 haltB rfl rfl ?_
  refine xdact 13 ?_
  refine xcall (halt_spec) ?_
  rintro v H ⟨hb3, rfl, rfl⟩
  refine G.app ?_
  refine xst ?_
  refine xdcst 14 haltB rfl rfl ?_
  refine xdseq 15 true rfl rfl (by simp) ?_
  refine xdop 16 ?_
  refine xdop 17 ?_
  (first | refine xdno 18 ?_ | refine xdop 18 ?_ | refine xdnu 18 ?_)
  (first | refine xdno 19 ?_ | refine xdop 19 ?_ | refine xdnu 19 ?_)
  refine xdop 20 ?_
  refine xdop 21 ?_
  (first | refine xdno 22 ?_ | refine xdop 22 ?_ | refine xdnu 22 ?_)
  refine xdop 23 ?_
  refine xdop 24 ?_
  (first | refine xdno 25 ?_ | refine xdop 25 ?_ | refine xdnu 25 ?_)
  (first | refine xdno 26 ?_ | refine xdlen 26 ?_ | refine xdnu 26 ?_)
  (first | refine xdno 27 ?_ | refine xdop 27 ?_ | refine xdnu 27 ?_)
  refine xdop 28 ?_
  refine xdop 29 ?_
  (first | refine xdno 30 ?_ | refine xdop 30 ?_ | refine xdnu 30 ?_)
  refine xdix 31 ?_ (k := 0) (hk := Nat.zero_lt_one)
  refine xdldla 32 rfl rfl 0 (Ntr.v ⟨1, 1, 7, 0⟩) rfl rfl (by exact Nat.le_refl 4) Nat.zero_lt_one ?_
  (first | refine xdno 33 ?_ | refine xdop 33 ?_ | refine xdnu 33 ?_)
  refine xdeq 34 rfl rfl eq_ntr rfl rfl (sameNtr ⟨1, 1, 7, 0⟩ ⟨1, 1, 7, 0⟩) ?_
  refine xE 80 (.bool true) rfl rfl ?_
  refine xdop 35 ?_
  refine xdop 36 ?_
  (first | refine xdno 37 ?_ | refine xdop 37 ?_ | refine xdnu 37 ?_)
  refine xdactJ 38 ?_
  refine xcall (generation_spec l d M2 ok3 1 (some 1) rfl) ?_
  rintro v H ⟨rfl, rfl⟩
  refine G.app ?_
  refine xE 84 (wV 1) rfl (by show wV (M2.r 1).gen = _; rw [f4]) ?_
  refine xst ?_
  (first | refine xdno 39 ?_ | refine xdop 39 ?_ | refine xdnu 39 ?_)
  refine xdop 40 ?_
  refine xdop 41 ?_
  (first | refine xdno 42 ?_ | refine xdop 42 ?_ | refine xdnu 42 ?_)
  refine xdld 43 rfl rfl ?_ (hv := partF_all rfl hml)
  refine xdactJ 44 ?_
  refine xcall (lbegin_spec l d M2 ok3 m hs) ?_
  rintro v H ⟨rfl, rfl⟩
  refine G.app ?_
  refine xE 90 (.int .i64 4) rfl (by rw [f6]) ?_
  refine xst ?_
  (first | refine xdno 45 ?_ | refine xdop 45 ?_ | refine xdnu 45 ?_)
  refine xdop 46 ?_
  refine xdop 47 ?_
  refine xdend ?_
  repeat (first | refine xst ?_ | refine xar ?_ | refine xop ?_ | refine xlen ?_ | refine xld rfl ?_ | refine xsto rfl ?_ | refine xno ?_ | refine xt ?_ | refine xf ?_ | refine xnu ?_)
  exact xret [] ⟨rfl, rfl⟩
end Go.Proofs.YtdalmiacjicgpaaGreatDoor

/- nacellelaw21.LoaderRises. -/
namespace Go.Proofs.YtdalmiacjicgpaaGreatDoor
open Go.W

set_option maxHeartbeats 4000000 in
theorem rises_spec (one two : UInt32) (a : Option Addr) (n cap : Nat) (bs0 : List UInt8) (hn : n = bs0.length) (hc : n ≤ cap) : Fun Tryz.prog 3 [wV one, wV two, .slice a n cap] [gNib, gErr, kV, iniV, slR 1 a n cap (bsV bs0)] [] fun v H => v = .bool true ∧ H = [] := by
  subst hn
  refine xenter (p := pg) Tryz.call3 Tryz.func3 fun C => ?_
  haveI : RP C gNib := RP.of C (by simp)
  haveI : RP C gErr := RP.of C (by simp)
  haveI : RP C kV := RP.of C (by simp)
  haveI : RP C iniV := RP.of C (by simp)
  have hr0 := RP.slR (RP.of C (X := slR 1 a bs0.length cap (bsV bs0)) (by simp))
  obtain ⟨bs, hbs⟩ : ∃ bs, bs = bs0.take (min bs0.length 600) := ⟨_, rfl⟩
  have hbl : min bs0.length 600 = bs.length := by rw [hbs]; simp
  have hb6 : bs.length ≤ 600 := by rw [← hbl]; exact Nat.min_le_right _ _
  haveI hr : RS C 1 a bs.length cap (bsV bs) := by
    have := RS.headB hr0 (m := min bs0.length 600) (Nat.min_le_left _ _)
    rwa [← hbs, hbl] at this
  repeat (first | refine xst ?_ | refine xar ?_ | refine xop ?_ | refine xlen ?_ | refine xld rfl ?_ | refine xsto rfl ?_ | refine xno ?_ | refine xt ?_ | refine xf ?_ | refine xnu ?_)
  refine xcall (store_spec) ?_
  rintro v H ⟨d, p, rfl, rfl⟩
  refine G.app ?_
  repeat (first | refine xst ?_ | refine xar ?_ | refine xop ?_ | refine xlen ?_ | refine xld rfl ?_ | refine xsto rfl ?_ | refine xno ?_ | refine xt ?_ | refine xf ?_ | refine xnu ?_)
  refine xcall (lopen_spec p d (Dk.new 80) ok_new rfl (by decide) (by decide)) ?_
  rintro v H ⟨l, M, rfl, ok, hq0, hq1, hes, hdead, rfl⟩
  refine G.app ?_
  have hq0 := load_new hq0
  rw [log_new] at hes
  obtain ⟨B1, C1, M2, S2, f, B2, c, C2, g, M3, S3, b1, b2, b3, b4, b5, b6, hhas, hbad, hgood⟩ := rises_law ok ok_new on_new hq0 hdead hes one two bs
  have ok1 := begin_ok ok (ofM_sum 0 one haltB)
  rw [b1] at ok1
  have ok2 := chunk_ok ok1 0 0 haltB
  rw [show chunkF (0, B1).2 0 0 haltB = (0, C1) from b2] at ok2
  obtain ⟨ok3, Sok3, _, hp3⟩ := linst_ok ok2 ok_new 0
  rw [show installF (0, C1).2 (Dk.new 80) 0 = (0, M2, S2) from b3] at ok3 Sok3 hp3
  have ok4 := begin_ok ok3 (ofM_sum 0 two bs)
  rw [show beginF (0, M2, S2).2.1 (ofM 0 two bs) = (f, B2) from b4] at ok4
  have ok5 := chunk_ok ok4 0 0 bs
  rw [show chunkF (f, B2).2 0 0 bs = (c, C2) from b5] at ok5
  obtain ⟨ok6, Sok6, _, _⟩ := linst_ok ok5 Sok3 0
  rw [show installF (c, C2).2 (0, M2, S2).2.2 0 = (g, M3, S3) from b6] at ok6 Sok6
  have hp3 : S2.pend.length ≤ 200 := by have : S2.pend.length ≤ (Dk.new 80).pend.length + 200 := hp3; exact this
  have hs1 := ofM_sum 0 one haltB
  have hs2 := ofM_sum 0 two bs
  repeat (first | refine xst ?_ | refine xar ?_ | refine xop ?_ | refine xlen ?_ | refine xld rfl ?_ | refine xsto rfl ?_ | refine xno ?_ | refine xt ?_ | refine xf ?_ | refine xnu ?_)
  refine xcall (halt_spec) ?_
  rintro v H ⟨hb, rfl, rfl⟩
  refine G.app ?_
  repeat (first | refine xst ?_ | refine xar ?_ | refine xop ?_ | refine xlen ?_ | refine xld rfl ?_ | refine xsto rfl ?_ | refine xno ?_ | refine xt ?_ | refine xf ?_ | refine xnu ?_)
  refine xcall (of_spec 0 one (some ⟨hb, 0, none⟩) 4 4 haltB rfl (by decide)) ?_
  rintro v H ⟨hv, rfl⟩
  rw [show (⟨0, one, haltB.length, shaF haltB⟩ : Man) = ofM 0 one haltB from rfl] at hv
  subst hv
  refine G.app ?_
  refine xcall (lbegin_spec l d M ok (ofM 0 one haltB) hs1) ?_
  rintro v H ⟨rfl, rfl⟩
  refine G.app ?_
  refine xE 36 (.int .i64 0) rfl (by rw [b1]) ?_
  refine xreH 0 (loaderH l d B1) rfl (by rw [b1]) ?_
  repeat (first | refine xst ?_ | refine xar ?_ | refine xop ?_ | refine xlen ?_ | refine xld rfl ?_ | refine xsto rfl ?_ | refine xno ?_ | refine xt ?_ | refine xf ?_ | refine xnu ?_)
  refine xcall (halt_spec) ?_
  rintro v H ⟨hb2, rfl, rfl⟩
  refine G.app ?_
  repeat (first | refine xst ?_ | refine xar ?_ | refine xop ?_ | refine xlen ?_ | refine xld rfl ?_ | refine xsto rfl ?_ | refine xno ?_ | refine xt ?_ | refine xf ?_ | refine xnu ?_)
  refine xcall (lchunk_spec l d B1 ok1 0 0 (some ⟨hb2, 0, none⟩) 4 4 haltB rfl (by decide)) ?_
  rintro v H ⟨rfl, rfl⟩
  refine G.app ?_
  refine xE 42 (.int .i64 0) rfl (by rw [b2]) ?_
  refine xreH 0 (loaderH l d C1) rfl (by rw [b2]) ?_
  repeat (first | refine xst ?_ | refine xar ?_ | refine xop ?_ | refine xlen ?_ | refine xld rfl ?_ | refine xsto rfl ?_ | refine xno ?_ | refine xt ?_ | refine xf ?_ | refine xnu ?_)
  refine xcall (linstall_spec l d C1 ok2 (Dk.new 80) ok_new (by decide) 0) ?_
  rintro v H ⟨rfl, rfl⟩
  refine G.app ?_
  refine xE 47 (.int .i64 0) rfl (by rw [b3]) ?_
  refine xreH 0 (loaderH l d M2) rfl (by rw [b3]) ?_
  refine xreH 1 (diskH d S2) rfl (by rw [b3]) ?_
  repeat (first | refine xst ?_ | refine xar ?_ | refine xop ?_ | refine xlen ?_ | refine xld rfl ?_ | refine xsto rfl ?_ | refine xno ?_ | refine xt ?_ | refine xf ?_ | refine xnu ?_)
  refine xcall (few_spec a bs0.length cap hc) ?_
  rintro v H ⟨rfl, rfl⟩
  refine G.app ?_
  rw [hbl]
  repeat (first | refine xst ?_ | refine xar ?_ | refine xop ?_ | refine xlen ?_ | refine xld rfl ?_ | refine xsto rfl ?_ | refine xno ?_ | refine xt ?_ | refine xf ?_ | refine xnu ?_)
  refine xcall (of_spec 0 two a bs.length cap bs rfl (by omega)) ?_
  rintro v H ⟨hv, rfl⟩
  rw [show (⟨0, two, bs.length, shaF bs⟩ : Man) = ofM 0 two bs from rfl] at hv
  subst hv
  refine G.app ?_
  refine xcall (lbegin_spec l d M2 ok3 (ofM 0 two bs) hs2) ?_
  rintro v H ⟨rfl, rfl⟩
  refine G.app ?_
  refine xE 56 (.int .i64 f) rfl (by rw [b4]) ?_
  refine xreH 0 (loaderH l d B2) rfl (by rw [b4]) ?_
  repeat (first | refine xst ?_ | refine xar ?_ | refine xop ?_ | refine xlen ?_ | refine xld rfl ?_ | refine xsto rfl ?_ | refine xno ?_ | refine xt ?_ | refine xf ?_ | refine xnu ?_)
  refine xcall (lchunk_spec l d B2 ok4 0 0 a bs.length cap bs rfl (by omega)) ?_
  rintro v H ⟨rfl, rfl⟩
  refine G.app ?_
  refine xE 59 (.int .i64 c) rfl (by rw [b5]) ?_
  refine xreH 0 (loaderH l d C2) rfl (by rw [b5]) ?_
  repeat (first | refine xst ?_ | refine xar ?_ | refine xop ?_ | refine xlen ?_ | refine xld rfl ?_ | refine xsto rfl ?_ | refine xno ?_ | refine xt ?_ | refine xf ?_ | refine xnu ?_)
  refine xcall (linstall_spec l d C2 ok5 S2 Sok3 (by omega) 0) ?_
  rintro v H ⟨rfl, rfl⟩
  refine G.app ?_
  refine xE 61 (.int .i64 g) rfl (by rw [b6]) ?_
  refine xreH 0 (loaderH l d M3) rfl (by rw [b6]) ?_
  refine xreH 1 (diskH d S3) rfl (by rw [b6]) ?_
  repeat (first | refine xst ?_ | refine xar ?_ | refine xop ?_ | refine xlen ?_ | refine xld rfl ?_ | refine xsto rfl ?_ | refine xno ?_ | refine xt ?_ | refine xf ?_ | refine xnu ?_)
  refine xcall (active_spec l d M3 ok6 0 (some 0) rfl) ?_
  rintro v H h
  have h : (if (M3.r 0).has = true then actH (M3.r 0) v H else v = actN ∧ H = []) := h
  rw [if_pos hhas] at h
  obtain ⟨aa, ac, rfl, rfl⟩ := h
  obtain ⟨img, himg⟩ : ∃ img, (M3.r 0).img = img := ⟨_, rfl⟩
  obtain ⟨ver, hver⟩ : ∃ ver, (M3.r 0).ver = ver := ⟨_, rfl⟩
  rw [himg, hver] at hbad hgood ⊢
  refine G.app ?_
  repeat (first | refine xst ?_ | refine xar ?_ | refine xop ?_ | refine xlen ?_ | refine xld rfl ?_ | refine xsto rfl ?_ | refine xno ?_ | refine xt ?_ | refine xf ?_ | refine xnu ?_)
  refine xd (q := f ≠ 0) (fun hf => ?_) (fun hf => ?_)
  · obtain ⟨rfl, rfl, rfl, h4⟩ := hbad hf
    rcases h4 with ⟨rfl, h4⟩ | rfl
    · skip
      repeat (first | refine xst ?_ | refine xar ?_ | refine xop ?_ | refine xlen ?_ | refine xld rfl ?_ | refine xsto rfl ?_ | refine xno ?_ | refine xt ?_ | refine xf ?_ | refine xnu ?_)
      refine xdraw ?_
      refine xdop 0 ?_
      refine xdcst 1 haltB rfl rfl ?_
      refine xdactJ 2 ?_
      refine xcall (halt_spec) ?_
      rintro v H ⟨hb3, rfl, rfl⟩
      refine G.app ?_
      refine xst ?_
      refine xdcst 3 haltB rfl rfl ?_
      refine xdseq 4 true rfl rfl (by simp) ?_
      refine xdop 5 ?_
      (first | refine xdno 6 ?_ | refine xdop 6 ?_ | refine xdnu 6 ?_)
      (first | refine xdno 7 ?_ | refine xdop 7 ?_ | refine xdnu 7 ?_)
      (first | refine xdno 8 ?_ | refine xdop 8 ?_ | refine xdnu 8 ?_)
      refine xE 78 (.bool true) rfl (congrArg Value.bool (decide_eq_true rfl)) ?_
      refine xdop 9 ?_
      refine xdop 10 ?_
      (first | refine xdno 11 ?_ | refine xdop 11 ?_ | refine xdnu 11 ?_)
      refine xdop 12 ?_
      refine xdop 13 ?_
      (first | refine xdno 14 ?_ | refine xdop 14 ?_ | refine xdnu 14 ?_)
      (first | refine xdno 15 ?_ | refine xdop 15 ?_ | refine xdnu 15 ?_)
      refine xdop 16 ?_
      refine xdop 17 ?_
      (first | refine xdno 18 ?_ | refine xdop 18 ?_ | refine xdnu 18 ?_)
      (first | refine xdno 19 ?_ | refine xdop 19 ?_ | refine xdnu 19 ?_)
      (first | refine xdno 20 ?_ | refine xdop 20 ?_ | refine xdnu 20 ?_)
      (first | refine xdno 21 ?_ | refine xdop 21 ?_ | refine xdnu 21 ?_)
      (first | refine xdno 22 ?_ | refine xdop 22 ?_ | refine xdnu 22 ?_)
      (first | refine xdno 23 ?_ | refine xdop 23 ?_ | refine xdnu 23 ?_)
      refine xE 93 (.bool true) rfl (congrArg Value.bool (decide_eq_true (by omega))) ?_
      (first | refine xdno 24 ?_ | refine xdop 24 ?_ | refine xdnu 24 ?_)
      (first | refine xdno 25 ?_ | refine xdop 25 ?_ | refine xdnu 25 ?_)
      (first | refine xdno 26 ?_ | refine xdop 26 ?_ | refine xdnu 26 ?_)
      (first | refine xdno 27 ?_ | refine xdop 27 ?_ | refine xdnu 27 ?_)
      (first | refine xdno 28 ?_ | refine xdop 28 ?_ | refine xdnu 28 ?_)
      refine xdop 29 ?_
      refine xdop 30 ?_
      refine xdactJ 31 ?_
      refine xcall (awake_spec) ?_
      rintro v H ⟨rfl, rfl⟩
      refine G.app ?_
      refine xst ?_
      refine xdop 32 ?_
      refine xdop 33 ?_
      refine xdend ?_
      repeat (first | refine xst ?_ | refine xar ?_ | refine xop ?_ | refine xlen ?_ | refine xld rfl ?_ | refine xsto rfl ?_ | refine xno ?_ | refine xt ?_ | refine xf ?_ | refine xnu ?_)
      exact xret [] ⟨rfl, rfl⟩
    · skip
      repeat (first | refine xst ?_ | refine xar ?_ | refine xop ?_ | refine xlen ?_ | refine xld rfl ?_ | refine xsto rfl ?_ | refine xno ?_ | refine xt ?_ | refine xf ?_ | refine xnu ?_)
      refine xdraw ?_
      refine xdop 0 ?_
      refine xdcst 1 haltB rfl rfl ?_
      refine xdactJ 2 ?_
      refine xcall (halt_spec) ?_
      rintro v H ⟨hb3, rfl, rfl⟩
      refine G.app ?_
      refine xst ?_
      refine xdcst 3 haltB rfl rfl ?_
      refine xdseq 4 true rfl rfl (by simp) ?_
      refine xdop 5 ?_
      (first | refine xdno 6 ?_ | refine xdop 6 ?_ | refine xdnu 6 ?_)
      (first | refine xdno 7 ?_ | refine xdop 7 ?_ | refine xdnu 7 ?_)
      (first | refine xdno 8 ?_ | refine xdop 8 ?_ | refine xdnu 8 ?_)
      refine xE 78 (.bool true) rfl (congrArg Value.bool (decide_eq_true rfl)) ?_
      refine xdop 9 ?_
      refine xdop 10 ?_
      (first | refine xdno 11 ?_ | refine xdop 11 ?_ | refine xdnu 11 ?_)
      refine xdop 12 ?_
      refine xdop 13 ?_
      (first | refine xdno 14 ?_ | refine xdop 14 ?_ | refine xdnu 14 ?_)
      (first | refine xdno 15 ?_ | refine xdop 15 ?_ | refine xdnu 15 ?_)
      refine xdop 16 ?_
      refine xdop 17 ?_
      (first | refine xdno 18 ?_ | refine xdop 18 ?_ | refine xdnu 18 ?_)
      (first | refine xdno 19 ?_ | refine xdop 19 ?_ | refine xdnu 19 ?_)
      (first | refine xdno 20 ?_ | refine xdop 20 ?_ | refine xdnu 20 ?_)
      (first | refine xdno 21 ?_ | refine xdop 21 ?_ | refine xdnu 21 ?_)
      (first | refine xdno 22 ?_ | refine xdop 22 ?_ | refine xdnu 22 ?_)
      (first | refine xdno 23 ?_ | refine xdop 23 ?_ | refine xdnu 23 ?_)
      (first | refine xdno 24 ?_ | refine xdop 24 ?_ | refine xdnu 24 ?_)
      (first | refine xdno 25 ?_ | refine xdop 25 ?_ | refine xdnu 25 ?_)
      (first | refine xdno 26 ?_ | refine xdop 26 ?_ | refine xdnu 26 ?_)
      (first | refine xdno 27 ?_ | refine xdop 27 ?_ | refine xdnu 27 ?_)
      (first | refine xdno 28 ?_ | refine xdop 28 ?_ | refine xdnu 28 ?_)
      refine xdop 29 ?_
      refine xdop 30 ?_
      refine xdactJ 31 ?_
      refine xcall (awake_spec) ?_
      rintro v H ⟨rfl, rfl⟩
      refine G.app ?_
      refine xst ?_
      refine xdop 32 ?_
      refine xdop 33 ?_
      refine xdend ?_
      repeat (first | refine xst ?_ | refine xar ?_ | refine xop ?_ | refine xlen ?_ | refine xld rfl ?_ | refine xsto rfl ?_ | refine xno ?_ | refine xt ?_ | refine xf ?_ | refine xnu ?_)
      exact xret [] ⟨rfl, rfl⟩
  · obtain rfl : f = 0 := by omega
    obtain ⟨hlt, hg0, hg1⟩ := hgood rfl
    repeat (refine xnot 105 ?_; first | refine xst ?_ | refine xar ?_ | refine xop ?_ | refine xlen ?_ | refine xld rfl ?_ | refine xsto rfl ?_ | refine xno ?_ | refine xt ?_ | refine xf ?_ | refine xnu ?_)
    refine xE 105 (.bool false) rfl (congrArg Value.bool (decide_eq_false (by omega))) ?_
    repeat (first | refine xst ?_ | refine xar ?_ | refine xop ?_ | refine xlen ?_ | refine xld rfl ?_ | refine xsto rfl ?_ | refine xno ?_ | refine xt ?_ | refine xf ?_ | refine xnu ?_)
    by_cases hg : g = 0
    · obtain ⟨rfl, rfl⟩ := hg0 hg
      subst hg
      refine xdraw ?_
      refine xdop 0 ?_
      refine xdop 1 ?_
      refine xdop 2 ?_
      (first | refine xdno 3 ?_ | refine xdop 3 ?_ | refine xdnu 3 ?_)
      refine xdcst 4 img rfl rfl ?_
      (first | refine xdno 5 ?_ | refine xdop 5 ?_ | refine xdnu 5 ?_)
      refine xdcst 6 img rfl rfl ?_
      refine xdseq 7 true rfl rfl (by simp) ?_
      refine xdop 8 ?_
      refine xdop 9 ?_
      (first | refine xdno 10 ?_ | refine xdop 10 ?_ | refine xdnu 10 ?_)
      (first | refine xdno 11 ?_ | refine xdop 11 ?_ | refine xdnu 11 ?_)
      (first | refine xdno 12 ?_ | refine xdop 12 ?_ | refine xdnu 12 ?_)
      refine xE 122 (.bool true) rfl (congrArg Value.bool (decide_eq_true rfl)) ?_
      refine xdop 13 ?_
      refine xdop 14 ?_
      (first | refine xdno 15 ?_ | refine xdop 15 ?_ | refine xdnu 15 ?_)
      (first | refine xdno 16 ?_ | refine xdop 16 ?_ | refine xdnu 16 ?_)
      (first | refine xdno 17 ?_ | refine xdop 17 ?_ | refine xdnu 17 ?_)
      (first | refine xdno 18 ?_ | refine xdop 18 ?_ | refine xdnu 18 ?_)
      (first | refine xdno 19 ?_ | first | refine xdar 19 ?_ | refine xdop 19 ?_ | refine xdnu 19 ?_)
      refine xdactJ 20 ?_
      (first | refine xno ?_ | refine xnu ?_)
      refine xst ?_
      (first | refine xdno 21 ?_ | first | refine xdar 21 ?_ | refine xdop 21 ?_ | refine xdnu 21 ?_)
      (first | refine xdno 22 ?_ | refine xdop 22 ?_ | refine xdnu 22 ?_)
      (first | refine xdno 23 ?_ | refine xdop 23 ?_ | refine xdnu 23 ?_)
      (first | refine xdno 24 ?_ | refine xdop 24 ?_ | refine xdnu 24 ?_)
      (first | refine xdno 25 ?_ | refine xdop 25 ?_ | refine xdnu 25 ?_)
      (first | refine xdno 26 ?_ | refine xdop 26 ?_ | refine xdnu 26 ?_)
      (first | refine xdno 27 ?_ | refine xdop 27 ?_ | refine xdnu 27 ?_)
      (first | refine xdno 28 ?_ | refine xdop 28 ?_ | refine xdnu 28 ?_)
      refine xdop 29 ?_
      refine xdop 30 ?_
      refine xdactJ 31 ?_
      refine xcall (awake_spec) ?_
      rintro v H ⟨rfl, rfl⟩
      refine G.app ?_
      refine xst ?_
      refine xdop 32 ?_
      refine xdop 33 ?_
      refine xdend ?_
      repeat (first | refine xst ?_ | refine xar ?_ | refine xop ?_ | refine xlen ?_ | refine xld rfl ?_ | refine xsto rfl ?_ | refine xno ?_ | refine xt ?_ | refine xf ?_ | refine xnu ?_)
      exact xret [] ⟨rfl, rfl⟩
    · obtain ⟨rfl, rfl⟩ := hg1 hg
      refine xdraw ?_
      refine xdop 0 ?_
      refine xdop 1 ?_
      refine xE 111 (.bool false) rfl (congrArg Value.bool (decide_eq_false hg)) ?_
      refine xdop 2 ?_
      (first | refine xdno 3 ?_ | refine xdop 3 ?_ | refine xdnu 3 ?_)
      (first | refine xdno 4 ?_ | first | refine xdar 4 ?_ | refine xdop 4 ?_ | refine xdnu 4 ?_)
      (first | refine xdno 5 ?_ | refine xdop 5 ?_ | refine xdnu 5 ?_)
      (first | refine xdno 6 ?_ | first | refine xdar 6 ?_ | refine xdop 6 ?_ | refine xdnu 6 ?_)
      (first | refine xdno 7 ?_ | refine xdop 7 ?_ | refine xdnu 7 ?_)
      refine xdop 8 ?_
      refine xdop 9 ?_
      (first | refine xdno 10 ?_ | refine xdop 10 ?_ | refine xdnu 10 ?_)
      (first | refine xdno 11 ?_ | refine xdop 11 ?_ | refine xdnu 11 ?_)
      (first | refine xdno 12 ?_ | refine xdop 12 ?_ | refine xdnu 12 ?_)
      refine xdop 13 ?_
      refine xdop 14 ?_
      (first | refine xdno 15 ?_ | refine xdop 15 ?_ | refine xdnu 15 ?_)
      (first | refine xdno 16 ?_ | refine xdop 16 ?_ | refine xdnu 16 ?_)
      refine xE 126 (.bool true) rfl (congrArg Value.bool (decide_eq_true hg)) ?_
      (first | refine xdno 17 ?_ | refine xdop 17 ?_ | refine xdnu 17 ?_)
      (first | refine xdno 18 ?_ | refine xdop 18 ?_ | refine xdnu 18 ?_)
      refine xdcst 19 haltB rfl rfl ?_
      refine xdactJ 20 ?_
      refine xcall (halt_spec) ?_
      rintro v H ⟨hb3, rfl, rfl⟩
      refine G.app ?_
      refine xst ?_
      refine xdcst 21 haltB rfl rfl ?_
      refine xdseq 22 true rfl rfl (by simp) ?_
      (first | refine xdno 23 ?_ | refine xdop 23 ?_ | refine xdnu 23 ?_)
      (first | refine xdno 24 ?_ | refine xdop 24 ?_ | refine xdnu 24 ?_)
      (first | refine xdno 25 ?_ | refine xdop 25 ?_ | refine xdnu 25 ?_)
      (first | refine xdno 26 ?_ | refine xdop 26 ?_ | refine xdnu 26 ?_)
      (first | refine xdno 27 ?_ | refine xdop 27 ?_ | refine xdnu 27 ?_)
      refine xE 137 (.bool true) rfl (congrArg Value.bool (decide_eq_true rfl)) ?_
      (first | refine xdno 28 ?_ | refine xdop 28 ?_ | refine xdnu 28 ?_)
      refine xdop 29 ?_
      refine xdop 30 ?_
      refine xdactJ 31 ?_
      refine xcall (awake_spec) ?_
      rintro v H ⟨rfl, rfl⟩
      refine G.app ?_
      refine xst ?_
      refine xdop 32 ?_
      refine xdop 33 ?_
      refine xdend ?_
      repeat (first | refine xst ?_ | refine xar ?_ | refine xop ?_ | refine xlen ?_ | refine xld rfl ?_ | refine xsto rfl ?_ | refine xno ?_ | refine xt ?_ | refine xf ?_ | refine xnu ?_)
      exact xret [] ⟨rfl, rfl⟩
end Go.Proofs.YtdalmiacjicgpaaGreatDoor

/- The closing, what the statements on loaders share. -/
namespace Go.Proofs.YtdalmiacjicgpaaGreatDoor
open Go.W Go.ChangeShapes Go.WideShapes Go.ChangeAt Go.RowKit

theorem own : ownKnob Tryz.prog.godebug = none := by kernel_rfl
theorem kids : Kids Tryz.prog (· < Tryz.prog.types.size) := kids_rows (by kernel_rfl) (by kernel_rfl)
theorem full : ∀ t e, t < Tryz.prog.types.size → Tryz.prog.underlying t = some (.slice e) → 0 < Tryz.prog.cellsOf e := slices_full_of _ (by kernel_rfl)

theorem et : Tryz.prog.globalNamed "errors.errorType" = some 3 := by kernel_rfl
theorem rt : (Tryz.prog.cutTypes.find? (·.1 == "internal/reflectlite.rtype")).map (·.2) = some 308 := by kernel_rfl
theorem tsize : Tryz.prog.types.size = 370 := by kernel_rfl
theorem oneRow : ((List.range 370).filter fun t => Tryz.prog.rowNamed t [101, 114, 114, 111, 114]) = [54] := by kernel_rfl
theorem handle_of {W : World} {l : List (String × DataW Unit)} (h : handlesMet Tryz.prog (("errors.errorType", Rows.laid_errors_errorType) :: l) W) : blkAt W 3 [.iface 308 (.agg #[.pointer (some ⟨5, 54, none⟩)])] := by
  obtain ⟨name, u, ty, e1, e2, e3, e4, e5⟩ := h _ List.mem_cons_self
  have en : name = [101, 114, 114, 111, 114] := (Option.some.inj e1).symm
  subst en
  obtain rfl := Option.some.inj (rt.symm.trans e2)
  have hm : ty ∈ (List.range 370).filter fun t => Tryz.prog.rowNamed t [101, 114, 114, 111, 114] := List.mem_filter.2 ⟨List.mem_range.2 (by rw [← tsize]; exact e3), e4⟩
  rw [oneRow] at hm
  obtain rfl := List.mem_singleton.1 hm
  have hh : typeHandle Tryz.prog 54 = .pointer (some ⟨5, 54, none⟩) := by kernel_rfl
  rw [hh] at e5
  exact blk_of_var et e5

theorem gK : Tryz.prog.globalNamed "nacelle/sha.constants" = some 1 := by kernel_rfl
theorem gKt : (Tryz.prog.globals[1]?).map (·.type) = some 281 := by kernel_rfl
theorem cK : Tryz.prog.cellsOf 281 = 64 := by kernel_rfl
theorem gI : Tryz.prog.globalNamed "nacelle/sha.initial" = some 0 := by kernel_rfl
theorem gIt : (Tryz.prog.globals[0]?).map (·.type) = some 242 := by kernel_rfl
theorem cI : Tryz.prog.cellsOf 242 = 8 := by kernel_rfl
theorem cW : Tryz.prog.cellsOf 22 = 1 := by kernel_rfl
theorem wsV_of (l : List UInt32) : (l.map fun x => (x.toNat : Int)).map (fun z => Value.int .u32 z) = wsV l := by simp [wsV, wV]

theorem gN : Tryz.prog.globalNamed "nacelle/crc.nibbles" = some 4 := by kernel_rfl
theorem gNt : (Tryz.prog.globals[4]?).map (·.type) = some 296 := by kernel_rfl
theorem cN : Tryz.prog.cellsOf 296 = 16 := by kernel_rfl
def loadLaid : List (String × DataW Unit) := [("nacelle/sha.initial", Rows.laid_nacelle_sha_initial), ("nacelle/sha.constants", Rows.laid_nacelle_sha_constants), ("errors.errorType", Rows.laid_errors_errorType), ("nacelle/crc.nibbles", Rows.laid_nacelle_crc_nibbles)]
theorem laid_facts {W : World} (h : laidMetH Tryz.prog loadLaid W) : blkAt W 3 [.iface 308 (.agg #[.pointer (some ⟨5, 54, none⟩)])] ∧ blkAt W 1 (wsV kL) ∧ blkAt W 0 (wsV iniS.l) ∧ blkAt W 4 (wsV nibL) := by
  have h' : laidMet Tryz.prog [("nacelle/sha.initial", Rows.laid_nacelle_sha_initial), ("nacelle/sha.constants", Rows.laid_nacelle_sha_constants), ("nacelle/crc.nibbles", Rows.laid_nacelle_crc_nibbles)] W ∧ handlesMet Tryz.prog [("errors.errorType", Rows.laid_errors_errorType)] W := h
  refine ⟨handle_of h'.2, ?_, ?_, ?_⟩
  · rw [← wsV_of]
    exact laid_tab h'.1 1 (zs := kL.map fun x => (x.toNat : Int)) rfl gK gKt Tryz.underlying281 Tryz.underlying22 cW cK
  · rw [← wsV_of]
    exact laid_tab h'.1 0 (zs := iniS.l.map fun x => (x.toNat : Int)) rfl gI gIt Tryz.underlying242 Tryz.underlying22 cW cI
  · rw [← wsV_of]
    exact laid_tab h'.1 2 (zs := nibL.map fun x => (x.toNat : Int)) rfl gN gNt Tryz.underlying296 Tryz.underlying22 cW cN

/-- A world for the witnesses: the settled one, the listed variables as they are laid. -/
noncomputable def laidWorld (os : Os) : World :=
  let w0 := World.holding Tryz.prog os ⟨#[], #[], []⟩
  let put (g : Nat) (l : List Value) (h : Array Obj) : Array Obj := h.modify g fun
      | .cells _ t frozen => .cells l.toArray t frozen
      | o => o
  { w0 with heap := put 3 [.iface 308 (.agg #[.pointer (some ⟨5, 54, none⟩)])] (put 1 (wsV kL) (put 0 (wsV iniS.l) (put 4 (wsV nibL) w0.heap))) }

theorem cells_bytes : ∀ {l : List Value}, (∀ k, k < l.length → ∃ n, (l.drop k).take 1 = [.int .u8 n] ∧ (Lit.int .u8 n).wf = true) → ∃ bs : List UInt8, l = bsV bs ∧ bs.length = l.length
  | [], _ => ⟨[], rfl, rfl⟩
  | v :: l, h => by
    obtain ⟨bs, h1, h2⟩ := cells_bytes (l := l) (fun k hk => by
      have := h (k + 1) (by simpa using hk)
      simpa using this)
    obtain ⟨n, h3, h4⟩ := h 0 (by simp)
    simp only [List.drop_zero, List.take_succ_cons, List.take_zero, List.cons.injEq, and_true] at h3
    subst h3
    have hb : 0 ≤ n ∧ n ≤ 255 := by simpa [Lit.wf, IntKind.min, IntKind.max, IntKind.signed, IntKind.bits] using h4
    refine ⟨UInt8.ofNat n.toNat :: bs, ?_, by simp [h2]⟩
    rw [h1]
    show _ = bV (UInt8.ofNat n.toNat) :: bsV bs
    congr 1
    unfold bV
    congr 1
    simp only [UInt8.toNat_ofNat']
    omega

theorem cells_one {P : Program} {W : World} {base : Nat} {t e : TypeId} {v : Value} (ht : P.underlying t = some (.slice e)) (hv : Value.okWide P W .any base t v) {a : Option Addr} {n cap : Nat} (h : v.cells.toList = [.slice a n cap]) : v = .slice a n cap := by
  cases v with
  | agg l => simp [Value.okWide, ht, Cell.okWide, Cell.ok] at hv
  | _ => simp_all [Value.cells]
theorem cell_int {P : Program} {W : World} {base : Nat} {t : TypeId} {k : IntKind} {v : Value} (ht : P.underlying t = some (.int k)) (hv : Value.okWide P W .any base t v) {j : IntKind} {n : Int} (h : v.cells.toList = [.int j n]) : v = .int j n := by
  cases v with
  | agg l => simp [Value.okWide, ht, Cell.okWide, Cell.ok] at hv
  | _ => simp_all [Value.cells]
/-- A word that comes in. -/
theorem word_of {W : World} {d : Nat} {cs : List Value} (h : Fits tree.look W (d + 1) 22 cs) : ∃ x : UInt32, cs = [wV x] := by
  obtain ⟨v, rfl, wv⟩ := h
  have hv2 : 0 ≤ v ∧ v ≤ 4294967295 := by simpa [Lit.wf, IntKind.min, IntKind.max, IntKind.signed, IntKind.bits] using wv
  refine ⟨UInt32.ofNat v.toNat, ?_⟩
  unfold wV
  congr 2
  simp only [UInt32.toNat_ofNat']
  omega
/-- Bytes that come in. -/
theorem bytes_of {W : World} {d : Nat} {cs : List Value} (h : Fits tree.look W (d + 2) 23 cs) : ∃ a n cap, ∃ bs : List UInt8, cs = [.slice a n cap] ∧ n = bs.length ∧ n ≤ cap ∧ cap ≤ maxLen ∧ viewR (fun b l => blkAt W b l) 1 a n cap (bsV bs) := by
  obtain ⟨a, n, cap, rfl, hn, hc, h⟩ := h
  obtain ⟨xs, hv, hx⟩ : ∃ xs, viewR (fun b l => blkAt W b l) 1 a n cap xs ∧ ∀ k, k < n → Fits tree.look W (d + 1) 5 ((xs.drop (k * 1)).take 1) := h (Nat.zero_lt_one)
  have hxl : xs.length = n := by have := hv.len.1; omega
  obtain ⟨bs, rfl, hbl⟩ := cells_bytes (l := xs) (fun k hk => by
    have := hx k (by omega)
    rw [Nat.mul_one] at this
    exact this)
  exact ⟨a, n, cap, bs, rfl, by omega, hn, hc, hv⟩
end Go.Proofs.YtdalmiacjicgpaaGreatDoor
