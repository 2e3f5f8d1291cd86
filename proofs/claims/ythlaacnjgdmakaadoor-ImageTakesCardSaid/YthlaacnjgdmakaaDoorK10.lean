/- Part of the proof: LLu, LCl -/
import Derived.Test.YthlaacnjgdmakaaDoorK9
import Derived.Test.YthlaacnjgdmakaaDoorK8
import Derived.Test.YthlaacnjgdmakaaDoorK3
import Derived.Test.YthlaacnjgdmakaaDoorRows
import Derived.Test.YthlaacnjgdmakaaDoorTie
import Derived.Test.YthlaacnjgdmakaaDoorCards
import Derived.LaidHandle
/- nacellelaw19.ImageTakes: the walk. -/
namespace Go.Proofs.YthlaacnjgdmakaaDoor
open Go.W

theorem got_ent (b : Nat) (l : List Value) {a : Option Addr} {n cap : Nat} {gs : List UInt8} : Ent [pts b l] [pts b l, gotP false a n cap gs] :=
  Ent.cons _ (fun w F _ => ⟨fun _ => False, F, trivial, by simpa using ‹_›, fun _ h => h.elim, fun _ h => h.elim, fun _ h => h⟩)

theorem bsV_set {zs : List UInt8} {i : Nat} (h : i < zs.length) : (bsV zs).take i ++ [bV 99] ++ (bsV zs).drop (i + 1) = bsV (zs.set i 99) := by
  have : bsV (zs.set i 99) = (bsV zs).set i (bV 99) := by simp [bsV, List.map_set]
  rw [this, List.set_eq_take_append_cons_drop, if_pos (by rw [bsV_length]; exact h), List.append_assoc]; rfl

theorem sameIns (i : Ins) : SameK (insV i) (insV i) := ⟨⟨_, _, _, rfl, rfl⟩, ⟨_, _, _, rfl, rfl⟩, ⟨_, _, _, rfl, rfl⟩, ⟨_, _, _, rfl, rfl⟩, trivial⟩

theorem takes_spec (m : Man) (hs : m.sum.length = 32) (a : Option Addr) (n cap : Nat) (bs : List UInt8) (hn : n = bs.length) (hcap : n ≤ cap) (ap : Option Addr) (np capp : Nat) (ps : List Pc) (hnp : np = ps.length) (hps : ∀ q ∈ ps, q.ok) :
    Fun Tryd.prog 4 [.agg (stgV m (.slice a n cap)).toArray, .slice ap np capp] ([gErr, kV, iniV, slR 1 a n cap (bsV bs), slR 2 ap np capp (pcsV ps)] ++ ps.map Pc.rd) []
    fun v H => v = .bool true ∧ H = [] := by
  subst hn
  subst hnp
  refine xenter (p := pg) Tryd.call4 Tryd.func4 fun C => ?_
  haveI : RP C gErr := RP.of C (by simp)
  haveI : RP C kV := RP.of C (by simp)
  haveI : RP C iniV := RP.of C (by simp)
  have hr0 := RP.slR (RP.of C (X := slR 1 a bs.length cap (bsV bs)) (by simp))
  have hrp := RP.slR (RP.of C (X := slR 2 ap ps.length capp (pcsV ps)) (by simp))
  have hpc : ∀ q ∈ ps, RS C 1 q.a q.n q.cap (bsV q.bs) := fun q hq => RP.slR (RP.of C (X := slR 1 q.a q.n q.cap (bsV q.bs)) (List.mem_append_right _ (List.mem_map_of_mem (f := Pc.rd) hq)))
  obtain ⟨xs, hxs⟩ : ∃ xs, xs = bs.take (min bs.length 600) := ⟨_, rfl⟩
  have hxl : min bs.length 600 = xs.length := by rw [hxs]; simp
  have hr : RS C 1 a xs.length cap (bsV xs) := by
    have := RS.headB hr0 (m := min bs.length 600) (Nat.min_le_left _ _)
    rwa [← hxs, hxl] at this
  have hx6 : xs.length ≤ 600 := by rw [← hxl]; exact Nat.min_le_right _ _
  have hml := Man.v_len hs
  have hsl := stgV_len hs
  repeat (first | refine xst ?_ | refine xar ?_ | refine xop ?_ | refine xlen ?_ | refine xld rfl ?_ | refine xsto rfl ?_ | refine xno ?_ | refine xt ?_ | refine xf ?_)
  refine xnew fun b => ?_
  refine xrep 0 (stgV m (.slice a bs.length cap)) rfl rfl ?_
  repeat (first | refine xst ?_ | refine xar ?_ | refine xop ?_ | refine xlen ?_ | refine xld rfl ?_ | refine xsto rfl ?_ | refine xno ?_ | refine xt ?_ | refine xf ?_)
  refine xld rfl ?_ (hv := stgV_got hs _ rfl)
  refine xcall (few_spec a bs.length cap hcap 600) ?_
  rintro v H ⟨rfl, rfl⟩
  rw [hxl]
  refine G.app ?_
  refine xop ?_
  refine xsto rfl ?_ (hm := putF_of (by rw [hsl]; exact Nat.le_of_ble_eq_true rfl))
  refine xrep 0 (stgV m (.slice a xs.length cap)) rfl (stg_fill hs _ _) ?_
  repeat (first | refine xst ?_ | refine xar ?_ | refine xop ?_ | refine xlen ?_ | refine xld rfl ?_ | refine xsto rfl ?_ | refine xno ?_ | refine xt ?_ | refine xf ?_)
  refine xld rfl ?_ (hv := stgV_man hs _ rfl rfl)
  refine xcall (begin_spec m hs) ?_
  rintro v H ⟨rfl, rfl⟩
  refine G.app ?_
  obtain ⟨mm, hmm⟩ : ∃ mm, mm = (if m.ok = true then m else man0) := ⟨_, rfl⟩
  have hmms : mm.sum.length = 32 := by rw [hmm]; split; exact hs; rfl
  rw [show (if m.ok = true then stgV m (.slice none 0 0) else stg0) = stgV mm (.slice none 0 0) by rw [hmm]; split <;> rfl]
  have hsl2 := stgV_len hmms
  repeat (first | refine xst ?_ | refine xar ?_ | refine xop ?_ | refine xlen ?_ | refine xld rfl ?_ | refine xsto rfl ?_ | refine xno ?_ | refine xt ?_ | refine xf ?_)
  refine xnew fun b5 => ?_
  refine xsta (cs := stgV mm (.slice none 0 0)) rfl (hsl2 _) (stgV_one mm rfl) (stgV mm (.slice none 0 0)) (put_all (by rw [hsl2]; rfl)) (by rw [hsl2]; exact Nat.le_of_ble_eq_true rfl) ?_
  refine G.sln 1 ?_
  refine xreH 0 (sl 1 none 0 0 (bsV [])) rfl rfl ?_
  refine xop ?_
  refine xst ?_
  refine xst ?_
  refine G.cut (σ := Unit) (fun _ => [(1, .slice ap ps.length capp), (2, .pointer (some ⟨b, 0, none⟩))]) (fun _ => [pts b (stgV m (.slice a xs.length cap))]) (fun _ => True) ?_ ?_
  · repeat (first | refine xst ?_ | refine xar ?_ | refine xop ?_ | refine xlen ?_ | refine xld rfl ?_ | refine xsto rfl ?_ | refine xno ?_ | refine xt ?_ | refine xf ?_)
    refine xld rfl ?_ (hv := stgV_man hs _ rfl rfl)
    refine xcall (may_spec m) ?_
    rintro v H ⟨rfl, rfl⟩
    refine G.app ?_
    by_cases hok : m.ok = true
    · rw [if_pos hok] at hmm
      subst hmm
      rw [if_pos hok, hok]
      repeat (first | refine xst ?_ | refine xar ?_ | refine xop ?_ | refine xlen ?_ | refine xld rfl ?_ | refine xsto rfl ?_ | refine xno ?_ | refine xt ?_ | refine xf ?_)
      refine xld rfl ?_ (hv := partF_all rfl (hsl _))
      repeat (first | refine xst ?_ | refine xar ?_ | refine xop ?_ | refine xlen ?_ | refine xld rfl ?_ | refine xsto rfl ?_ | refine xno ?_ | refine xt ?_ | refine xf ?_)
      refine xld rfl ?_ (hv := stgV_man hs _ rfl rfl)
      refine xbuild (stgV mm (.slice none 0 0)) rfl (fillF_cons rfl hml (by exact Nat.le_of_ble_eq_true rfl) (congrArg some rfl)) ?_
      refine xcall (same_spec mm hs none none 0 0 0 0 []) ?_
      rintro v H ⟨rfl, rfl⟩
      refine G.app ?_
      repeat (first | refine xst ?_ | refine xar ?_ | refine xop ?_ | refine xlen ?_ | refine xld rfl ?_ | refine xsto rfl ?_ | refine xno ?_ | refine xt ?_ | refine xf ?_)
      exact G.fin () trivial ⟨rfl, rfl, trivial⟩ ent_pick
    · have hok0 : m.ok = false := by simpa using hok
      rw [if_neg hok] at hmm
      subst hmm
      rw [if_neg hok, hok0]
      repeat (first | refine xst ?_ | refine xar ?_ | refine xop ?_ | refine xlen ?_ | refine xld rfl ?_ | refine xsto rfl ?_ | refine xno ?_ | refine xt ?_ | refine xf ?_)
      refine xcall (same_spec man0 rfl none none 0 0 0 0 []) ?_
      rintro v H ⟨rfl, rfl⟩
      refine G.app ?_
      repeat (first | refine xst ?_ | refine xar ?_ | refine xop ?_ | refine xlen ?_ | refine xld rfl ?_ | refine xsto rfl ?_ | refine xno ?_ | refine xt ?_ | refine xf ?_)
      exact G.fin () trivial ⟨rfl, rfl, trivial⟩ ent_pick
  rintro _ _
  show G C _ [(1, .slice ap ps.length capp), (2, .pointer (some ⟨b, 0, none⟩))] [pts b (stgV m (.slice a xs.length cap))]
  repeat (refine xnot 7 ?_; first | refine xst ?_ | refine xar ?_ | refine xop ?_ | refine xlen ?_ | refine xld rfl ?_ | refine xsto rfl ?_ | refine xno ?_ | refine xt ?_ | refine xf ?_)
  refine xst ?_
  refine G.cut (σ := Bool × Option Addr × Nat × List UInt8) (fun _ => [(1, .slice ap ps.length capp), (2, .pointer (some ⟨b, 0, none⟩))])
    (fun s => [pts b (stgV m (.slice s.2.1 s.2.2.2.length s.2.2.1)), gotP s.1 s.2.1 s.2.2.2.length s.2.2.1 s.2.2.2]) (fun s => s.2.2.2.length ≤ 600 ∧ (s.1 = false → RS C 1 s.2.1 s.2.2.2.length s.2.2.1 (bsV s.2.2.2))) ?_ ?_
  · repeat (first | refine xst ?_ | refine xar ?_ | refine xop ?_ | refine xlen ?_ | refine xld rfl ?_ | refine xsto rfl ?_ | refine xno ?_ | refine xt ?_ | refine xf ?_)
    refine G.loop (σ := Nat × Bool × Option Addr × Nat × List UInt8) (fun s => [(1, .slice ap ps.length capp), (2, .pointer (some ⟨b, 0, none⟩)), (7, .int .i64 (s.1 : Int))])
      (fun s => [pts b (stgV m (.slice s.2.2.1 s.2.2.2.2.length s.2.2.2.1)), gotP s.2.1 s.2.2.1 s.2.2.2.2.length s.2.2.2.1 s.2.2.2.2]) (fun s => s.1 ≤ ps.length ∧ s.2.2.2.2.length ≤ 600 ∧ (s.2.1 = false → RS C 1 s.2.2.1 s.2.2.2.2.length s.2.2.2.1 (bsV s.2.2.2.2))) (fun s => ps.length - s.1)
      (0, false, a, cap, xs) ⟨Nat.zero_le _, hx6, fun _ => hr⟩ ⟨rfl, rfl, rfl, trivial⟩ ?_ ?_
    · exact got_ent _ _
    rintro ⟨k, o, ga, gc, gs⟩ ⟨hk, hg6, hgo⟩
    simp only at hk hg6 hgo
    show G C _ [(1, .slice ap ps.length capp), (2, .pointer (some ⟨b, 0, none⟩)), (7, .int .i64 (k : Int))] [pts b (stgV m (.slice ga gs.length gc)), gotP o ga gs.length gc gs]
    repeat (first | refine xst ?_ | refine xar ?_ | refine xop ?_ | refine xlen ?_ | refine xld rfl ?_ | refine xsto rfl ?_ | refine xno ?_ | refine xt ?_ | refine xf ?_)
    refine xbc (q := (k : Int) < (ps.length : Int)) 70 (fun hlt => ?_) (fun hlt => ?_)
    rotate_left
    · repeat (first | refine xst ?_ | refine xar ?_ | refine xop ?_ | refine xlen ?_ | refine xld rfl ?_ | refine xsto rfl ?_ | refine xno ?_ | refine xt ?_ | refine xf ?_)
      exact G.fin (o, ga, gc, gs) ⟨hg6, hgo⟩ ⟨rfl, rfl, trivial⟩ (Ent.refl _)
    have hlt : k < ps.length := by omega
    repeat (first | refine xst ?_ | refine xar ?_ | refine xop ?_ | refine xlen ?_ | refine xld rfl ?_ | refine xsto rfl ?_ | refine xno ?_ | refine xt ?_ | refine xf ?_)
    refine xd (fun h20 => ?_) (fun h20 => ?_)
    rotate_left
    · repeat (first | refine xst ?_ | refine xar ?_ | refine xop ?_ | refine xlen ?_ | refine xld rfl ?_ | refine xsto rfl ?_ | refine xno ?_ | refine xt ?_ | refine xf ?_)
      exact G.fin (o, ga, gc, gs) ⟨hg6, hgo⟩ ⟨rfl, rfl, trivial⟩ (Ent.refl _)
    haveI hR : ∀ H R [Rem H (gotP o ga gs.length gc gs) R], RdOk C H (slR 1 ga gs.length gc (bsV gs)) := fun H R h => RdOk.got hgo H R h
    obtain ⟨q, hq⟩ : ∃ q, q = ps[k] := ⟨_, rfl⟩
    have hqm : q ∈ ps := by rw [hq]; exact List.getElem_mem _
    obtain ⟨hq1, hq2⟩ := hps q hqm
    have hqr := hpc q hqm
    obtain ⟨hpa, hpb⟩ := pcs_at hlt
    rw [← hq] at hpa hpb
    have hpl : (pcsV ps).length = ps.length * 2 := hrp.len.1
    obtain ⟨pb, po, rfl, hpr⟩ := hrp.some (by omega)
    obtain ⟨ys, hys⟩ : ∃ ys, ys = q.bs.take (min q.n 600) := ⟨_, rfl⟩
    have hyl : min q.n 600 = ys.length := by rw [hys, hq1]; simp
    have hyr : RS C 1 q.a ys.length q.cap (bsV ys) := by
      have := RS.headB hqr (m := min q.n 600) (Nat.min_le_left _ _)
      rwa [← hys, hyl] at this
    have hy6 : ys.length ≤ 600 := by rw [← hyl]; exact Nat.min_le_right _ _
    obtain ⟨c, hc⟩ : ∃ c, chunkC m gs.length q.at_ ys.length = c := ⟨_, rfl⟩
    obtain ⟨m2, hm2⟩ : ∃ x, chM m c = x := ⟨_, rfl⟩
    obtain ⟨g2, hg2⟩ : ∃ x, chG c gs ys = x := ⟨_, rfl⟩
    have hm2s : m2.sum.length = 32 := by rw [← hm2]; exact chM_len hs c
    have hsl2 := stgV_len hm2s
    repeat (first | refine xst ?_ | refine xar ?_ | refine xop ?_ | refine xlen ?_ | refine xld rfl ?_ | refine xsto rfl ?_ | refine xno ?_ | refine xt ?_ | refine xf ?_)
    refine xbsl fun b2 => ?_
    refine xslc 0 1 0 [] rfl rfl rfl ?_
    repeat (first | refine xst ?_ | refine xar ?_ | refine xop ?_ | refine xlen ?_ | refine xld rfl ?_ | refine xsto rfl ?_ | refine xno ?_ | refine xt ?_ | refine xf ?_)
    refine xix ?_ (hk := hlt)
    refine xop ?_
    refine xldl rfl (k * 2 + 1) hpb ?_
    refine xcall (few_spec q.a q.n q.cap hq2 600) ?_
    rintro v H ⟨rfl, rfl⟩
    rw [hyl]
    refine G.app ?_
    refine xapp [] rfl (SrcOk.rs hyr (bsV_one _)) (by omega) fun a3 c3 => ?_
    refine xreH 0 (sl 1 a3 ys.length c3 (bsV ys)) rfl (by rw [Nat.zero_add]; rfl) ?_
    refine xE 83 (.slice a3 ys.length c3) rfl (by rw [Nat.zero_add]) ?_
    refine xop ?_
    refine xst ?_
    refine xst ?_
    refine G.cut (σ := Option Addr × Nat × Nat) (fun s => [(1, .slice (some ⟨pb, po, none⟩) ps.length capp), (2, .pointer (some ⟨b, 0, none⟩)), (7, .int .i64 (k : Int)), (8, .slice a3 ys.length c3), (9, .pointer (some ⟨s.2.2, 0, none⟩)), (10, .int .i64 c)])
      (fun s => [pts b (stgV m (.slice ga gs.length gc)), gotP o ga gs.length gc gs, sl 1 a3 ys.length c3 (bsV ys), sl 1 s.1 g2.length s.2.1 (bsV g2), pts s.2.2 (stgV m2 (.slice s.1 g2.length s.2.1))]) (fun _ => True) ?_ ?_
    · refine xdraw ?_
      refine xdld 0 rfl rfl ?_ (hv := partF_all rfl (hsl _))
      refine xdop 1 ?_
      refine xdop 2 ?_
      refine xdix 3 ?_ (hk := hlt)
      refine xdop 4 ?_
      refine xdldl 5 rfl rfl (k * 2) hpa (by omega) ?_
      refine xdop 6 ?_
      refine xdact2 7 11 ?_ ?_
      · refine xcall (chunkU m hs ga gs.length gc gs rfl (by omega) q.at_ a3 ys.length c3 ys rfl (by omega) c hc m2 hm2 g2 hg2) ?_
        rintro v H ⟨a4, c4, rfl, rfl⟩
        refine G.app ?_
        refine xst ?_
        refine xdop 8 ?_
        refine xdop 9 ?_
        refine xdop 10 ?_
        refine xdact 11 ?_
        refine xnew fun b4 => ?_
        refine xst ?_
        refine xdact 12 ?_
        refine xsta (cs := stgV m2 (.slice a4 g2.length c4)) rfl (hsl2 _) (stgV_one m2 rfl) (stgV m2 (.slice a4 g2.length c4)) (put_all (by rw [hsl2]; rfl)) (by rw [hsl2]; exact Nat.le_of_ble_eq_true rfl) ?_
        refine xst ?_
        refine xdop 13 ?_
        refine xdend ?_
        exact G.fin (a4, c4, b4) trivial ⟨rfl, rfl, rfl, rfl, rfl, rfl, trivial⟩ ent_pick
      · refine xnew fun b4 => ?_
        refine xst ?_
        refine xdact 7 ?_
        refine xcall (chunkU m hs ga gs.length gc gs rfl (by omega) q.at_ a3 ys.length c3 ys rfl (by omega) c hc m2 hm2 g2 hg2) ?_
        rintro v H ⟨a4, c4, rfl, rfl⟩
        refine G.app ?_
        refine xst ?_
        refine xdop 8 ?_
        refine xdop 9 ?_
        refine xdop 10 ?_
        refine xdact 12 ?_
        refine xsta (cs := stgV m2 (.slice a4 g2.length c4)) rfl (hsl2 _) (stgV_one m2 rfl) (stgV m2 (.slice a4 g2.length c4)) (put_all (by rw [hsl2]; rfl)) (by rw [hsl2]; exact Nat.le_of_ble_eq_true rfl) ?_
        refine xst ?_
        refine xdop 13 ?_
        refine xdend ?_
        exact G.fin (a4, c4, b4) trivial ⟨rfl, rfl, rfl, rfl, rfl, rfl, trivial⟩ ent_pick
    rintro ⟨a4, c4, b4⟩ _
    simp only
    show G C _ [(1, .slice (some ⟨pb, po, none⟩) ps.length capp), (2, .pointer (some ⟨b, 0, none⟩)), (7, .int .i64 (k : Int)), (8, .slice a3 ys.length c3), (9, .pointer (some ⟨b4, 0, none⟩)), (10, .int .i64 c)] [pts b (stgV m (.slice ga gs.length gc)), gotP o ga gs.length gc gs, sl 1 a3 ys.length c3 (bsV ys), sl 1 a4 g2.length c4 (bsV g2), pts b4 (stgV m2 (.slice a4 g2.length c4))]
    refine xst ?_
    refine G.cut (σ := Option Addr × Nat × Nat) (fun s => [(1, .slice (some ⟨pb, po, none⟩) ps.length capp), (2, .pointer (some ⟨b, 0, none⟩)), (7, .int .i64 (k : Int)), (8, .slice a3 ys.length c3), (9, .pointer (some ⟨b4, 0, none⟩)), (10, .int .i64 c), (11, .pointer (some ⟨s.2.2, 0, none⟩)), (12, .int .i64 c)])
      (fun s => [pts b (stgV m (.slice ga gs.length gc)), gotP o ga gs.length gc gs, sl 1 a3 ys.length c3 (bsV ys), sl 1 a4 g2.length c4 (bsV g2), pts b4 (stgV m2 (.slice a4 g2.length c4)), sl 1 s.1 g2.length s.2.1 (bsV g2), pts s.2.2 (stgV m2 (.slice s.1 g2.length s.2.1))]) (fun _ => True) ?_ ?_
    · refine xdraw ?_
      refine xdld 0 rfl rfl ?_ (hv := partF_all rfl (hsl _))
      refine xdop 1 ?_
      refine xdop 2 ?_
      refine xdix 3 ?_ (hk := hlt)
      refine xdop 4 ?_
      refine xdldl 5 rfl rfl (k * 2) hpa (by omega) ?_
      refine xdop 6 ?_
      refine xdact2 7 11 ?_ ?_
      · refine xcall (rchunkU m hs ga gs.length gc gs rfl (by omega) q.at_ a3 ys.length c3 ys rfl (by omega) c hc m2 hm2 g2 hg2) ?_
        rintro v H ⟨a5, c5, rfl, rfl⟩
        refine G.app ?_
        refine xst ?_
        refine xdop 8 ?_
        refine xdop 9 ?_
        refine xdop 10 ?_
        refine xdact 11 ?_
        refine xnew fun b6 => ?_
        refine xst ?_
        refine xdact 12 ?_
        refine xsta (cs := stgV m2 (.slice a5 g2.length c5)) rfl (hsl2 _) (stgV_one m2 rfl) (stgV m2 (.slice a5 g2.length c5)) (put_all (by rw [hsl2]; rfl)) (by rw [hsl2]; exact Nat.le_of_ble_eq_true rfl) ?_
        refine xst ?_
        refine xdop 13 ?_
        refine xdend ?_
        exact G.fin (a5, c5, b6) trivial ⟨rfl, rfl, rfl, rfl, rfl, rfl, rfl, rfl, trivial⟩ ent_pick
      · refine xnew fun b6 => ?_
        refine xst ?_
        refine xdact 7 ?_
        refine xcall (rchunkU m hs ga gs.length gc gs rfl (by omega) q.at_ a3 ys.length c3 ys rfl (by omega) c hc m2 hm2 g2 hg2) ?_
        rintro v H ⟨a5, c5, rfl, rfl⟩
        refine G.app ?_
        refine xst ?_
        refine xdop 8 ?_
        refine xdop 9 ?_
        refine xdop 10 ?_
        refine xdact 12 ?_
        refine xsta (cs := stgV m2 (.slice a5 g2.length c5)) rfl (hsl2 _) (stgV_one m2 rfl) (stgV m2 (.slice a5 g2.length c5)) (put_all (by rw [hsl2]; rfl)) (by rw [hsl2]; exact Nat.le_of_ble_eq_true rfl) ?_
        refine xst ?_
        refine xdop 13 ?_
        refine xdend ?_
        exact G.fin (a5, c5, b6) trivial ⟨rfl, rfl, rfl, rfl, rfl, rfl, rfl, rfl, trivial⟩ ent_pick
    rintro ⟨a5, c5, b6⟩ _
    simp only
    show G C _ [(1, .slice (some ⟨pb, po, none⟩) ps.length capp), (2, .pointer (some ⟨b, 0, none⟩)), (7, .int .i64 (k : Int)), (8, .slice a3 ys.length c3), (9, .pointer (some ⟨b4, 0, none⟩)), (10, .int .i64 c), (11, .pointer (some ⟨b6, 0, none⟩)), (12, .int .i64 c)] [pts b (stgV m (.slice ga gs.length gc)), gotP o ga gs.length gc gs, sl 1 a3 ys.length c3 (bsV ys), sl 1 a4 g2.length c4 (bsV g2), pts b4 (stgV m2 (.slice a4 g2.length c4)), sl 1 a5 g2.length c5 (bsV g2), pts b6 (stgV m2 (.slice a5 g2.length c5))]
    repeat (first | refine xst ?_ | refine xar ?_ | refine xop ?_ | refine xlen ?_ | refine xld rfl ?_ | refine xsto rfl ?_ | refine xno ?_ | refine xt ?_ | refine xf ?_)
    refine G.loop (σ := Nat × List UInt8) (fun s => [(1, .slice (some ⟨pb, po, none⟩) ps.length capp), (2, .pointer (some ⟨b, 0, none⟩)), (7, .int .i64 (k : Int)), (8, .slice a3 ys.length c3), (9, .pointer (some ⟨b4, 0, none⟩)), (10, .int .i64 c), (11, .pointer (some ⟨b6, 0, none⟩)), (12, .int .i64 c), (13, .int .i64 (s.1 : Int))])
      (fun s => [pts b (stgV m (.slice ga gs.length gc)), gotP o ga gs.length gc gs, sl 1 a3 ys.length c3 (bsV s.2), sl 1 a4 g2.length c4 (bsV g2), pts b4 (stgV m2 (.slice a4 g2.length c4)), sl 1 a5 g2.length c5 (bsV g2), pts b6 (stgV m2 (.slice a5 g2.length c5))]) (fun s => s.1 ≤ ys.length ∧ s.2.length = ys.length) (fun s => ys.length - s.1)
      (0, ys) ⟨Nat.zero_le _, rfl⟩ ⟨rfl, rfl, rfl, rfl, rfl, rfl, rfl, rfl, rfl, trivial⟩ (Ent.refl _) ?_
    rintro ⟨i, zs⟩ ⟨hi, hz⟩
    simp only at hi hz
    show G C _ [(1, .slice (some ⟨pb, po, none⟩) ps.length capp), (2, .pointer (some ⟨b, 0, none⟩)), (7, .int .i64 (k : Int)), (8, .slice a3 ys.length c3), (9, .pointer (some ⟨b4, 0, none⟩)), (10, .int .i64 c), (11, .pointer (some ⟨b6, 0, none⟩)), (12, .int .i64 c), (13, .int .i64 (i : Int))] [pts b (stgV m (.slice ga gs.length gc)), gotP o ga gs.length gc gs, sl 1 a3 ys.length c3 (bsV zs), sl 1 a4 g2.length c4 (bsV g2), pts b4 (stgV m2 (.slice a4 g2.length c4)), sl 1 a5 g2.length c5 (bsV g2), pts b6 (stgV m2 (.slice a5 g2.length c5))]
    repeat (first | refine xst ?_ | refine xar ?_ | refine xop ?_ | refine xlen ?_ | refine xld rfl ?_ | refine xsto rfl ?_ | refine xno ?_ | refine xt ?_ | refine xf ?_)
    refine xd (q := (i : Int) < (ys.length : Int)) (fun h13 => ?_) (fun h13 => ?_)
    · have h13 : i < ys.length := by omega
      refine xslf 2 rfl fun _ q2 q3 => ?_
      obtain ⟨b7, o7, rfl⟩ := q3 (by omega)
      repeat (first | refine xst ?_ | refine xar ?_ | refine xop ?_ | refine xlen ?_ | refine xld rfl ?_ | refine xsto rfl ?_ | refine xno ?_ | refine xt ?_ | refine xf ?_)
      refine xix ?_ (hk := h13)
      refine xstl rfl i (bsV (zs.set i 99)) (bsV_set (by omega)) (by rw [bsV_length]; show i + 1 ≤ _; omega) ?_ (hj := offAt_one _ _)
      repeat (first | refine xst ?_ | refine xar ?_ | refine xop ?_ | refine xlen ?_ | refine xld rfl ?_ | refine xsto rfl ?_ | refine xno ?_ | refine xt ?_ | refine xf ?_)
      exact G.fin (i + 1, zs.set i 99) ⟨⟨by show i + 1 ≤ _; omega, by show (zs.set i 99).length = _; rw [List.length_set]; exact hz⟩, by show ys.length - (i + 1) < ys.length - i; omega⟩ ⟨rfl, rfl, rfl, rfl, rfl, rfl, rfl, rfl, rfl, trivial⟩ (Ent.refl _)
    by_cases hc0 : c = 0
    · obtain rfl : m2 = m := by rw [← hm2]; unfold chM; rw [if_pos hc0]
      subst hc0
      repeat (first | refine xst ?_ | refine xar ?_ | refine xop ?_ | refine xlen ?_ | refine xld rfl ?_ | refine xsto rfl ?_ | refine xno ?_ | refine xt ?_ | refine xf ?_)
      refine xld rfl ?_ (hv := partF_all rfl (hsl _))
      refine xld rfl ?_ (hv := partF_all rfl (hsl _))
      refine xcall (same_spec m2 hs a4 a5 g2.length c4 g2.length c5 g2) ?_
      rintro v H ⟨rfl, rfl⟩
      refine G.app ?_
      repeat (first | refine xst ?_ | refine xar ?_ | refine xop ?_ | refine xlen ?_ | refine xld rfl ?_ | refine xsto rfl ?_ | refine xno ?_ | refine xt ?_ | refine xf ?_)
      refine xld rfl ?_ (hv := partF_all rfl (hsl _))
      refine xsta (cs := stgV m2 (.slice a4 g2.length c4)) rfl (hsl _) (stgV_one m2 rfl) (stgV m2 (.slice a4 g2.length c4)) (put_all (by rw [hsl, hsl])) (by rw [hsl, hsl]; exact Nat.le_of_ble_eq_true rfl) ?_
      repeat (first | refine xst ?_ | refine xar ?_ | refine xop ?_ | refine xlen ?_ | refine xld rfl ?_ | refine xsto rfl ?_ | refine xno ?_ | refine xt ?_ | refine xf ?_)
      refine G.fin (k + 1, true, a4, c4, g2) ⟨⟨by show k + 1 ≤ _; omega, ?_, fun h => by cases h⟩, by show ps.length - (k + 1) < ps.length - k; omega⟩ ⟨rfl, rfl, rfl, trivial⟩ ?_
      · show g2.length ≤ 600
        have := chunkC_len hc
        rw [← hg2, show chG 0 gs ys = gs ++ ys from rfl, List.length_append]; exact this
      · show Ent _ [pts b (stgV m2 (.slice a4 g2.length c4)), sl 1 a4 g2.length c4 (bsV g2)]
        exact ent_pick
    · obtain rfl : m2 = man0 := by rw [← hm2]; unfold chM; rw [if_neg hc0]
      obtain rfl : g2 = [] := by rw [← hg2]; unfold chG; rw [if_neg hc0]
      refine G.sln 1 ?_
      refine xreH 0 (sl 1 none 0 0 (bsV [])) rfl rfl ?_
      repeat (refine xnot 117 ?_; first | refine xst ?_ | refine xar ?_ | refine xop ?_ | refine xlen ?_ | refine xld rfl ?_ | refine xsto rfl ?_ | refine xno ?_ | refine xt ?_ | refine xf ?_)
      refine xE 117 (.bool false) rfl (by simp) ?_
      repeat (refine xnot 120 ?_; first | refine xst ?_ | refine xar ?_ | refine xop ?_ | refine xlen ?_ | refine xld rfl ?_ | refine xsto rfl ?_ | refine xno ?_ | refine xt ?_ | refine xf ?_)
      refine xE 120 (.bool true) rfl (by simp [hc0]) ?_
      repeat (first | refine xst ?_ | refine xar ?_ | refine xop ?_ | refine xlen ?_ | refine xld rfl ?_ | refine xsto rfl ?_ | refine xno ?_ | refine xt ?_ | refine xf ?_)
      refine xcall (same_spec man0 rfl a4 none 0 c4 0 0 []) ?_
      rintro v H ⟨rfl, rfl⟩
      refine G.app ?_
      repeat (refine xnot 130 ?_; first | refine xst ?_ | refine xar ?_ | refine xop ?_ | refine xlen ?_ | refine xld rfl ?_ | refine xsto rfl ?_ | refine xno ?_ | refine xt ?_ | refine xf ?_)
      refine xE 130 (.bool false) rfl (by simp [hc0]) ?_
      repeat (refine xnot 139 ?_; first | refine xst ?_ | refine xar ?_ | refine xop ?_ | refine xlen ?_ | refine xld rfl ?_ | refine xsto rfl ?_ | refine xno ?_ | refine xt ?_ | refine xf ?_)
      refine xE 139 (.bool false) rfl (by simp [hc0]) ?_
      repeat (first | refine xst ?_ | refine xar ?_ | refine xop ?_ | refine xlen ?_ | refine xld rfl ?_ | refine xsto rfl ?_ | refine xno ?_ | refine xt ?_ | refine xf ?_)
      refine G.fin (k + 1, o, ga, gc, gs) ⟨⟨by show k + 1 ≤ _; omega, hg6, hgo⟩, by show ps.length - (k + 1) < ps.length - k; omega⟩ ⟨rfl, rfl, rfl, trivial⟩ ?_
      exact ent_pick
  rintro ⟨o, ga, gc, gs⟩ ⟨hg6, hgo⟩
  simp only at hg6 hgo
  show G C _ [(1, .slice ap ps.length capp), (2, .pointer (some ⟨b, 0, none⟩))] [pts b (stgV m (.slice ga gs.length gc)), gotP o ga gs.length gc gs]
  haveI hR : ∀ H R [Rem H (gotP o ga gs.length gc gs) R], RdOk C H (slR 1 ga gs.length gc (bsV gs)) := fun H R h => RdOk.got hgo H R h
  by_cases hp : progF m gs = []
  · have hpl : progL m gs = listI gs := by unfold progL; rw [if_pos hp]
    obtain ⟨_, _, _, hdec⟩ := progF_nil hp
    have h4 := (decF_nil hdec).1
    obtain ⟨l, hl⟩ : ∃ l, listI gs = l := ⟨_, rfl⟩
    have hlb : l.length ≤ 600 := by rw [← hl, listI_len h4]; omega
    repeat (first | refine xst ?_ | refine xar ?_ | refine xop ?_ | refine xlen ?_ | refine xld rfl ?_ | refine xsto rfl ?_ | refine xno ?_ | refine xt ?_ | refine xf ?_)
    refine xld rfl ?_ (hv := partF_all rfl (hsl _))
    refine xcall (finish_spec m hs ga gs.length gc gs rfl (by omega)) ?_
    rw [hpl, hp, hl]
    rintro v H ⟨a11, c11, e11, rfl, he11, rfl⟩
    refine G.app ?_
    refine G.fact (chain [] e11) (P := e11 = .nilIface) (fun w F h => h) fun h => ?_
    subst h
    repeat (first | refine xst ?_ | refine xar ?_ | refine xop ?_ | refine xlen ?_ | refine xld rfl ?_ | refine xsto rfl ?_ | refine xno ?_ | refine xt ?_ | refine xf ?_)
    refine xld rfl ?_ (hv := stgV_man hs _ rfl rfl)
    repeat (first | refine xst ?_ | refine xar ?_ | refine xop ?_ | refine xlen ?_ | refine xld rfl ?_ | refine xsto rfl ?_ | refine xno ?_ | refine xt ?_ | refine xf ?_)
    refine xld rfl ?_ (hv := stgV_got hs _ rfl)
    refine xcall (rchk_spec m hs ga gs.length gc gs rfl (by omega)) ?_
    rw [hp]
    rintro v H ⟨a12, c12, rfl, rfl⟩
    refine G.app ?_
    repeat (refine xnot 155 ?_; first | refine xst ?_ | refine xar ?_ | refine xop ?_ | refine xlen ?_ | refine xld rfl ?_ | refine xsto rfl ?_ | refine xno ?_ | refine xt ?_ | refine xf ?_)
    refine xE 155 (.bool false) rfl (by simp [codeF]) ?_
    repeat (first | refine xst ?_ | refine xar ?_ | refine xop ?_ | refine xlen ?_ | refine xld rfl ?_ | refine xsto rfl ?_ | refine xno ?_ | refine xt ?_ | refine xf ?_)
    refine xld rfl ?_ (hv := stgV_got hs _ rfl)
    refine xcall (rlist_spec ga gs.length gc gs rfl (by omega) h4) ?_
    rw [hl]
    rintro v H ⟨a18, c18, rfl, rfl⟩
    refine G.app ?_
    repeat (refine xnot 178 ?_; first | refine xst ?_ | refine xar ?_ | refine xop ?_ | refine xlen ?_ | refine xld rfl ?_ | refine xsto rfl ?_ | refine xno ?_ | refine xt ?_ | refine xf ?_)
    refine xE 178 (.bool false) rfl (by simp) ?_
    repeat (first | refine xst ?_ | refine xar ?_ | refine xop ?_ | refine xlen ?_ | refine xld rfl ?_ | refine xsto rfl ?_ | refine xno ?_ | refine xt ?_ | refine xf ?_)
    refine G.loop (σ := Nat) (fun i => [(14, .slice a11 l.length c11), (18, .slice a18 l.length c18), (19, .int .i64 (i : Int))]) (fun _ => [sl 4 a11 l.length c11 (inssV l), sl 4 a18 l.length c18 (inssV l)]) (fun i => i ≤ l.length) (fun i => l.length - i) 0 (Nat.zero_le _) ⟨rfl, rfl, rfl, trivial⟩ ent_pick ?_
    intro i hi
    have hi : i ≤ l.length := hi
    show G C _ [(14, .slice a11 l.length c11), (18, .slice a18 l.length c18), (19, .int .i64 (i : Int))] [sl 4 a11 l.length c11 (inssV l), sl 4 a18 l.length c18 (inssV l)]
    repeat (first | refine xst ?_ | refine xar ?_ | refine xop ?_ | refine xlen ?_ | refine xld rfl ?_ | refine xsto rfl ?_ | refine xno ?_ | refine xt ?_ | refine xf ?_)
    refine xd (q := (i : Int) < (l.length : Int)) (fun h1 => ?_) (fun h1 => ?_)
    · have h1 : i < l.length := by omega
      have hel : ((inssV l).drop (i * 4)).take 4 = insV l[i] := flat_elem insV_len l i h1
      have hll : i * 4 + 4 ≤ (inssV l).length := by rw [inssV_len]; omega
      refine xslf 0 rfl fun _ q2 q3 => ?_
      obtain ⟨b14, o14, rfl⟩ := q3 (by omega)
      refine xslf 1 rfl fun _ q2 q3 => ?_
      obtain ⟨b18, o18, rfl⟩ := q3 (by omega)
      repeat (first | refine xst ?_ | refine xar ?_ | refine xop ?_ | refine xlen ?_ | refine xld rfl ?_ | refine xsto rfl ?_ | refine xno ?_ | refine xt ?_ | refine xf ?_)
      refine xdraw ?_
      refine xdop 0 ?_
      refine xdop 1 ?_
      refine xdix 2 ?_ (hk := by first | omega | exact Nat.le_of_ble_eq_true rfl)
      refine xdldla 3 rfl rfl (i * 4) (insV l[i]) rfl hel hll (by omega) ?_
      refine xdop 4 ?_
      refine xdop 5 ?_
      refine xdix 6 ?_ (hk := by first | omega | exact Nat.le_of_ble_eq_true rfl)
      refine xdldla 7 rfl rfl (i * 4) (insV l[i]) rfl hel hll (by omega) ?_
      refine xdeq 8 rfl rfl eq_ins rfl rfl (sameIns l[i]) ?_
      refine xE 194 (.bool false) rfl (by rw [(eqIV_iff (sameIns l[i])).2 rfl]; rfl) ?_
      refine xdend ?_
      repeat (first | refine xst ?_ | refine xar ?_ | refine xop ?_ | refine xlen ?_ | refine xld rfl ?_ | refine xsto rfl ?_ | refine xno ?_ | refine xt ?_ | refine xf ?_)
      exact G.fin (i + 1) ⟨by show i + 1 ≤ l.length; omega, by show l.length - (i + 1) < l.length - i; omega⟩ ⟨rfl, rfl, rfl, trivial⟩ (Ent.refl _)
    · repeat (first | refine xst ?_ | refine xar ?_ | refine xop ?_ | refine xlen ?_ | refine xld rfl ?_ | refine xsto rfl ?_ | refine xno ?_ | refine xt ?_ | refine xf ?_)
      refine xcall awake_spec ?_
      rintro v H ⟨rfl, rfl⟩
      refine G.app ?_
      repeat (first | refine xst ?_ | refine xar ?_ | refine xop ?_ | refine xlen ?_ | refine xld rfl ?_ | refine xsto rfl ?_ | refine xno ?_ | refine xt ?_ | refine xf ?_)
      exact xret [] ⟨rfl, rfl⟩
  · have hpl : progL m gs = [] := by unfold progL; rw [if_neg hp]
    repeat (first | refine xst ?_ | refine xar ?_ | refine xop ?_ | refine xlen ?_ | refine xld rfl ?_ | refine xsto rfl ?_ | refine xno ?_ | refine xt ?_ | refine xf ?_)
    refine xld rfl ?_ (hv := partF_all rfl (hsl _))
    refine xcall (finish_spec m hs ga gs.length gc gs rfl (by omega)) ?_
    rw [hpl]
    rintro v H ⟨a11, c11, e11, rfl, he11, rfl⟩
    refine G.app ?_
    repeat (first | refine xst ?_ | refine xar ?_ | refine xop ?_ | refine xlen ?_ | refine xld rfl ?_ | refine xsto rfl ?_ | refine xno ?_ | refine xt ?_ | refine xf ?_)
    refine xld rfl ?_ (hv := stgV_man hs _ rfl rfl)
    repeat (first | refine xst ?_ | refine xar ?_ | refine xop ?_ | refine xlen ?_ | refine xld rfl ?_ | refine xsto rfl ?_ | refine xno ?_ | refine xt ?_ | refine xf ?_)
    refine xld rfl ?_ (hv := stgV_got hs _ rfl)
    refine xcall (rchk_spec m hs ga gs.length gc gs rfl (by omega)) ?_
    rintro v H ⟨a12, c12, rfl, rfl⟩
    refine G.app ?_
    have hcf := progF_code m gs hp
    repeat (first | refine xst ?_ | refine xar ?_ | refine xop ?_ | refine xlen ?_ | refine xld rfl ?_ | refine xsto rfl ?_ | refine xno ?_ | refine xt ?_ | refine xf ?_)
    refine xy (q := codeF (progF m gs) ≠ 0) hcf ?_
    repeat (first | refine xst ?_ | refine xar ?_ | refine xop ?_ | refine xlen ?_ | refine xld rfl ?_ | refine xsto rfl ?_ | refine xno ?_ | refine xt ?_ | refine xf ?_)
    refine xcall (told_spec (progF m gs) e11 (codeF (progF m gs)) a12 (progF m gs).length c12 rfl (progF_len m gs) rfl (progF_code m gs)) ?_
    rintro v H ⟨rfl, rfl⟩
    refine G.app ?_
    repeat (first | refine xst ?_ | refine xar ?_ | refine xop ?_ | refine xlen ?_ | refine xld rfl ?_ | refine xsto rfl ?_ | refine xno ?_ | refine xt ?_ | refine xf ?_)
    refine xcall awake_spec ?_
    rintro v H ⟨rfl, rfl⟩
    refine G.app ?_
    repeat (first | refine xst ?_ | refine xar ?_ | refine xop ?_ | refine xlen ?_ | refine xld rfl ?_ | refine xsto rfl ?_ | refine xno ?_ | refine xt ?_ | refine xf ?_)
    exact xret [] ⟨rfl, rfl⟩
end Go.Proofs.YthlaacnjgdmakaaDoor

/- The closing, what all statements of this seat share: the listed variables; manifests and stagings that come in. -/
namespace Go.Proofs.YthlaacnjgdmakaaDoor
open Go.W Go.ChangeShapes Go.WideShapes Go.ChangeAt Go.RowKit

theorem own : ownKnob Tryd.prog.godebug = none := by kernel_rfl
theorem kids : Kids Tryd.prog (· < Tryd.prog.types.size) := kids_rows (by kernel_rfl) (by kernel_rfl)
theorem full : ∀ t e, t < Tryd.prog.types.size → Tryd.prog.underlying t = some (.slice e) → 0 < Tryd.prog.cellsOf e := slices_full_of _ (by kernel_rfl)

theorem et : Tryd.prog.globalNamed "errors.errorType" = some 2 := by kernel_rfl
theorem rt : (Tryd.prog.cutTypes.find? (·.1 == "internal/reflectlite.rtype")).map (·.2) = some 188 := by kernel_rfl
theorem tsize : Tryd.prog.types.size = 238 := by kernel_rfl
theorem oneRow : ((List.range 238).filter fun t => Tryd.prog.rowNamed t [101, 114, 114, 111, 114]) = [54] := by kernel_rfl
theorem handle_of {W : World} {l : List (String × DataW Unit)} (h : handlesMet Tryd.prog (("errors.errorType", Rows.laid_errors_errorType) :: l) W) : blkAt W 2 [.iface 188 (.agg #[.pointer (some ⟨7, 54, none⟩)])] := by
  obtain ⟨name, u, ty, e1, e2, e3, e4, e5⟩ := h _ List.mem_cons_self
  have en : name = [101, 114, 114, 111, 114] := (Option.some.inj e1).symm
  subst en
  obtain rfl := Option.some.inj (rt.symm.trans e2)
  have hm : ty ∈ (List.range 238).filter fun t => Tryd.prog.rowNamed t [101, 114, 114, 111, 114] := List.mem_filter.2 ⟨List.mem_range.2 (by rw [← tsize]; exact e3), e4⟩
  rw [oneRow] at hm
  obtain rfl := List.mem_singleton.1 hm
  have hh : typeHandle Tryd.prog 54 = .pointer (some ⟨7, 54, none⟩) := by kernel_rfl
  rw [hh] at e5
  exact blk_of_var et e5

theorem gK : Tryd.prog.globalNamed "nacelle/sha.constants" = some 3 := by kernel_rfl
theorem gKt : (Tryd.prog.globals[3]?).map (·.type) = some 184 := by kernel_rfl
theorem cK : Tryd.prog.cellsOf 184 = 64 := by kernel_rfl
theorem gI : Tryd.prog.globalNamed "nacelle/sha.initial" = some 1 := by kernel_rfl
theorem gIt : (Tryd.prog.globals[1]?).map (·.type) = some 139 := by kernel_rfl
theorem cI : Tryd.prog.cellsOf 139 = 8 := by kernel_rfl
theorem cW : Tryd.prog.cellsOf 36 = 1 := by kernel_rfl
theorem wsV_of (l : List UInt32) : (l.map fun x => (x.toNat : Int)).map (fun z => Value.int .u32 z) = wsV l := by simp [wsV, wV]

/-- The list of the statements on images. -/
def shaLaid : List (String × DataW Unit) := [("math/bits.deBruijn32tab", Rows.laid_math_bits_deBruijn32tab), ("math/bits.deBruijn64tab", Rows.laid_math_bits_deBruijn64tab), ("internal/strconv.uint64pow10", Rows.laid_internal_strconv_uint64pow10), ("nacelle/sha.initial", Rows.laid_nacelle_sha_initial),
  ("nacelle/sha.constants", Rows.laid_nacelle_sha_constants), ("errors.errorType", Rows.laid_errors_errorType)]
theorem laid_facts {W : World} (h : laidMetH Tryd.prog shaLaid W) : blkAt W 2 [.iface 188 (.agg #[.pointer (some ⟨7, 54, none⟩)])] ∧ blkAt W 3 (wsV kL) ∧ blkAt W 1 (wsV iniS.l) := by
  have h' : laidMet Tryd.prog [("math/bits.deBruijn32tab", Rows.laid_math_bits_deBruijn32tab), ("math/bits.deBruijn64tab", Rows.laid_math_bits_deBruijn64tab), ("internal/strconv.uint64pow10", Rows.laid_internal_strconv_uint64pow10), ("nacelle/sha.initial", Rows.laid_nacelle_sha_initial),
    ("nacelle/sha.constants", Rows.laid_nacelle_sha_constants)] W ∧ handlesMet Tryd.prog [("errors.errorType", Rows.laid_errors_errorType)] W := h
  refine ⟨handle_of h'.2, ?_, ?_⟩
  · rw [← wsV_of]
    exact laid_tab h'.1 4 (zs := kL.map fun x => (x.toNat : Int)) rfl gK gKt Tryd.underlying184 Tryd.underlying36 cW cK
  · rw [← wsV_of]
    exact laid_tab h'.1 3 (zs := iniS.l.map fun x => (x.toNat : Int)) rfl gI gIt Tryd.underlying139 Tryd.underlying36 cW cI

/-- A world for the witnesses: the settled one, the listed variables as they are laid. -/
noncomputable def laidWorld (os : Os) : World :=
  let w0 := World.holding Tryd.prog os ⟨#[], #[], []⟩
  let put (g : Nat) (l : List Value) (h : Array Obj) : Array Obj := h.modify g fun
      | .cells _ t frozen => .cells l.toArray t frozen
      | o => o
  { w0 with heap := put 2 [.iface 188 (.agg #[.pointer (some ⟨7, 54, none⟩)])] (put 3 (wsV kL) (put 1 (wsV iniS.l)
      (put 4 [.int .u64 1, .int .u64 10, .int .u64 100, .int .u64 1000, .int .u64 10000, .int .u64 100000, .int .u64 1000000, .int .u64 10000000, .int .u64 100000000, .int .u64 1000000000, .int .u64 10000000000, .int .u64 100000000000, .int .u64 1000000000000, .int .u64 10000000000000, .int .u64 100000000000000, .int .u64 1000000000000000, .int .u64 10000000000000000, .int .u64 100000000000000000, .int .u64 1000000000000000000, .int .u64 10000000000000000000] (put 5 [.int .u8 0, .int .u8 1, .int .u8 28, .int .u8 2, .int .u8 29, .int .u8 14, .int .u8 24, .int .u8 3, .int .u8 30, .int .u8 22, .int .u8 20, .int .u8 15, .int .u8 25, .int .u8 17, .int .u8 4, .int .u8 8, .int .u8 31, .int .u8 27, .int .u8 13, .int .u8 23, .int .u8 21, .int .u8 19, .int .u8 16, .int .u8 7, .int .u8 26, .int .u8 12, .int .u8 18, .int .u8 6, .int .u8 11, .int .u8 5, .int .u8 10, .int .u8 9] (put 6 [.int .u8 0, .int .u8 1, .int .u8 56, .int .u8 2, .int .u8 57, .int .u8 49, .int .u8 28, .int .u8 3, .int .u8 61, .int .u8 58, .int .u8 42, .int .u8 50, .int .u8 38, .int .u8 29, .int .u8 17, .int .u8 4, .int .u8 62, .int .u8 47, .int .u8 59, .int .u8 36, .int .u8 45, .int .u8 43, .int .u8 51, .int .u8 22, .int .u8 53, .int .u8 39, .int .u8 33, .int .u8 30, .int .u8 24, .int .u8 18, .int .u8 12, .int .u8 5, .int .u8 63, .int .u8 55, .int .u8 48, .int .u8 27, .int .u8 60, .int .u8 41, .int .u8 37, .int .u8 16, .int .u8 46, .int .u8 35, .int .u8 44, .int .u8 21, .int .u8 52, .int .u8 32, .int .u8 23, .int .u8 11, .int .u8 54, .int .u8 26, .int .u8 40, .int .u8 15, .int .u8 34, .int .u8 20, .int .u8 31, .int .u8 10, .int .u8 25, .int .u8 14, .int .u8 19, .int .u8 9, .int .u8 13, .int .u8 8, .int .u8 7, .int .u8 6] w0.heap))))) }

theorem cells_bytes : ∀ {l : List Value}, (∀ k, k < l.length → ∃ n, (l.drop k).take 1 = [.int .u8 n] ∧ (Lit.int .u8 n).wf = true) → ∃ bs : List UInt8, l = bsV bs ∧ bs.length = l.length
  | [], _ => ⟨[], rfl, rfl⟩
  | v :: l, h => by
    obtain ⟨bs, h1, h2⟩ := cells_bytes (l := l) (fun k hk => by
      have := h (k + 1) (by simpa using hk)
      simpa using this)
    obtain ⟨n, h3, h4⟩ := h 0 (by simp)
    simp only [List.drop_zero, List.take_succ_cons, List.take_zero, List.cons.injEq, and_true] at h3
    subst h3
    have hb : 0 ≤ n ∧ n ≤ 255 := by simpa [Lit.wf, IntKind.min, IntKind.max, IntKind.signed, IntKind.bits] using h4
    refine ⟨UInt8.ofNat n.toNat :: bs, ?_, by simp [h2]⟩
    rw [h1]
    show _ = bV (UInt8.ofNat n.toNat) :: bsV bs
    congr 1
    unfold bV
    congr 1
    simp only [UInt8.toNat_ofNat']
    omega

/-- A manifest that comes in. -/
theorem man_of {W : World} {d : Nat} {cs : List Value} (h : Fits tree.look W (d + 3) 39 cs) : ∃ m : Man, m.sum.length = 32 ∧ cs = m.v ∧ (Lit.int .i64 m.part).wf = true ∧ (Lit.int .i64 m.size).wf = true := by
  obtain ⟨hl, hq⟩ := h
  have hl : cs.length = 35 := hl
  have h0 : Fits tree.look W (d + 2) 3 ((cs.drop 0).take 1) := hq (0, 3) (by simp)
  have h1 : Fits tree.look W (d + 2) 36 ((cs.drop 1).take 1) := hq (1, 36) (by simp)
  have h2 : Fits tree.look W (d + 2) 3 ((cs.drop 2).take 1) := hq (2, 3) (by simp)
  have h3 : Fits tree.look W (d + 2) 37 ((cs.drop 3).take 32) := hq (3, 37) (by simp)
  obtain ⟨p, hp, wp⟩ := h0
  obtain ⟨v, hv, wv⟩ := h1
  obtain ⟨z, hz, wz⟩ := h2
  obtain ⟨hl3, h3⟩ := h3
  have h3 : ∀ k, k < 32 → Fits tree.look W (d + 1) 5 ((((cs.drop 3).take 32).drop (k * 1)).take 1) := h3
  obtain ⟨bs, hb, hbl⟩ := cells_bytes (l := (cs.drop 3).take 32) (fun k hk => by
    have := h3 k (by simpa [hl] using hk)
    rw [Nat.mul_one] at this
    exact this)
  have hv2 : 0 ≤ v ∧ v ≤ 4294967295 := by simpa [Lit.wf, IntKind.min, IntKind.max, IntKind.signed, IntKind.bits] using wv
  refine ⟨⟨p, UInt32.ofNat v.toNat, z, bs⟩, by rw [hbl]; simp [hl], ?_, wp, wz⟩
  match cs, hl with
  | c0 :: c1 :: c2 :: r, hl =>
    simp only [List.drop_zero, List.drop_succ_cons, List.take_succ_cons, List.take_zero, List.cons.injEq, and_true] at hp hv hz hb
    have hr : r.take 32 = r := List.take_of_length_le (by simp at hl; omega)
    rw [hr] at hb
    subst hp; subst hv; subst hz; subst hb
    unfold Man.v wV
    congr 2
    congr 1
    simp only [UInt32.toNat_ofNat']
    omega

theorem cells_one {P : Program} {W : World} {base : Nat} {t e : TypeId} {v : Value} (ht : P.underlying t = some (.slice e)) (hv : Value.okWide P W .any base t v) {a : Option Addr} {n cap : Nat} (h : v.cells.toList = [.slice a n cap]) : v = .slice a n cap := by
  cases v with
  | agg l => simp [Value.okWide, ht, Cell.okWide, Cell.ok] at hv
  | _ => simp_all [Value.cells]
/-- Bytes that come in. -/
theorem bytes_of {W : World} {d : Nat} {cs : List Value} (h : Fits tree.look W (d + 2) 25 cs) : ∃ a n cap, ∃ bs : List UInt8, cs = [.slice a n cap] ∧ n = bs.length ∧ n ≤ cap ∧ cap ≤ maxLen ∧ viewR (fun b l => blkAt W b l) 1 a n cap (bsV bs) := by
  obtain ⟨a, n, cap, rfl, hn, hc, h⟩ := h
  obtain ⟨xs, hv, hx⟩ : ∃ xs, viewR (fun b l => blkAt W b l) 1 a n cap xs ∧ ∀ k, k < n → Fits tree.look W (d + 1) 5 ((xs.drop (k * 1)).take 1) := h (Nat.zero_lt_one)
  have hxl : xs.length = n := by have := hv.len.1; omega
  obtain ⟨bs, rfl, hbl⟩ := cells_bytes (l := xs) (fun k hk => by
    have := hx k (by omega)
    rw [Nat.mul_one] at this
    exact this)
  exact ⟨a, n, cap, bs, rfl, by omega, hn, hc, hv⟩
end Go.Proofs.YthlaacnjgdmakaaDoor
