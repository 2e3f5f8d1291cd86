/- Part of the proof: LGe, LGf, LGg, LGh, LGi -/
import Derived.Test.YthlaacnjgdmakaaDoorK8
import Derived.Test.YthlaacnjgdmakaaDoorK3
/- gram: study. -/
namespace Go.Proofs.YthlaacnjgdmakaaDoor
open Go.W

/-! ## '==' of facts -/
def fxP : List Bool := List.replicate 16 true ++ List.replicate 16 true ++ List.replicate (16 * 4) false ++ List.replicate (16 * 4) false
theorem same_bl : ∀ {a b : List Bool}, a.length = b.length → SameB (List.replicate a.length true) (blV a) (blV b)
  | [], [], _ => trivial
  | x :: a, y :: b, h => ⟨⟨x, y, rfl, rfl⟩, same_bl (by simpa using h)⟩
theorem same_sets : ∀ {a b : List Nat}, a.length = b.length → SameB (List.replicate (a.length * 4) false) (setsV a) (setsV b)
  | [], [], _ => trivial
  | x :: a, y :: b, h => by
    rw [List.length_cons, Nat.succ_mul, Nat.add_comm, ← List.replicate_append_replicate]
    exact SameB.append (p := List.replicate 4 false) (xs := setV x) (ys := setV y) ⟨⟨_, _, _, rfl, rfl⟩, ⟨_, _, _, rfl, rfl⟩, ⟨_, _, _, rfl, rfl⟩, ⟨_, _, _, rfl, rfl⟩, trivial⟩ (same_sets (by simpa using h))
theorem Fx.same {F G : Fx} (h : F.ok) (h' : G.ok) : SameB fxP F.v G.v := by
  have h1 := same_bl (h.text.trans h'.text.symm)
  have h2 := same_bl (h.null.trans h'.null.symm)
  have h3 := same_sets (h.first.trans h'.first.symm)
  have h4 := same_sets (h.follow.trans h'.follow.symm)
  rw [h.text] at h1; rw [h.null] at h2; rw [h.first] at h3; rw [h.follow] at h4
  have := ((h1.append h2).append h3).append h4
  unfold fxP Fx.v
  exact this
theorem blV_inj : ∀ {a b : List Bool}, blV a = blV b → a = b
  | [], [], _ => rfl
  | x :: a, y :: b, h => by
    simp only [blV, List.map_cons, List.cons.injEq, Value.bool.injEq] at h
    rw [h.1, blV_inj h.2]
  | [], _ :: _, h => by simp [blV] at h
  | _ :: _, [], h => by simp [blV] at h
theorem setsV_inj : ∀ {a b : List Nat}, a.length = b.length → (∀ x ∈ a, x < 2 ^ 256) → (∀ x ∈ b, x < 2 ^ 256) → setsV a = setsV b → a = b
  | [], [], _, _, _, _ => rfl
  | x :: a, y :: b, hl, ha, hb, h => by
    have h : setV x ++ setsV a = setV y ++ setsV b := h
    obtain ⟨h1, h2⟩ := List.append_inj h (by rw [setV_len, setV_len])
    rw [setV_inj (ha x (by simp)) (hb y (by simp)) h1, setsV_inj (by simpa using hl) (fun z hz => ha z (by simp [hz])) (fun z hz => hb z (by simp [hz])) h2]
  | [], _ :: _, hl, _, _, _ => by simp at hl
  | _ :: _, [], hl, _, _, _ => by simp at hl
theorem Fx.v_inj {F G : Fx} (h : F.ok) (h' : G.ok) (e : F.v = G.v) : F = G := by
  obtain ⟨a, b, c, d⟩ := F
  obtain ⟨a', b', c', d'⟩ := G
  have l1 := h.text.trans h'.text.symm; have l2 := h.null.trans h'.null.symm; have l3 := h.first.trans h'.first.symm; have l4 := h.follow.trans h'.follow.symm
  simp only at l1 l2 l3 l4
  unfold Fx.v at e
  simp only at e
  obtain ⟨e, e4⟩ := List.append_inj e (by simp only [List.length_append, blV_len, setsV_len, l1, l2, l3])
  obtain ⟨e, e3⟩ := List.append_inj e (by simp only [List.length_append, blV_len, l1, l2])
  obtain ⟨e1, e2⟩ := List.append_inj e (by simp only [blV_len, l1])
  rw [blV_inj e1, blV_inj e2, setsV_inj l3 h.lf h'.lf e3, setsV_inj l4 h.lw h'.lw e4]
theorem eqb_flags (d : Nat) : EqB pg.P (d + 2) 80 ty80 (List.replicate 16 true) :=
  EqB.arr (j := ty4) ok80 rfl ok4 rfl (.inr rfl) (q := [true]) (by decide) (EqB.bool ok4 rfl d)
theorem eqb_set (d : Nat) : EqB pg.P (d + 2) 83 ty83 (List.replicate 4 false) :=
  EqB.arr (j := ty81) ok83 rfl ok81 rfl (.inr rfl) (q := [false]) (by decide) (EqB.int ok81 rfl rfl d)
theorem eqb_sets (d : Nat) : EqB pg.P (d + 3) 84 ty84 (List.replicate 64 false) :=
  EqB.arr (j := ty83) ok84 rfl ok83 rfl (.inl rfl) (q := List.replicate 4 false) (by decide) (eqb_set d)
theorem eq_facts : EqBK pg 86 ty86 fxP :=
  ⟨EqB.str (d := 9999) ok86 rfl (by kernel_rfl) (by kernel_rfl) ⟨rfl, _, ok80, .inl rfl, eqb_flags 9997, by decide, rfl, _, ok80, .inl rfl, eqb_flags 9997, by decide, rfl, _, ok84, .inl rfl, eqb_sets 9996, by decide, rfl, _, ok84, .inl rfl, eqb_sets 9996, by decide, rfl⟩, rfl, by kernel_rfl⟩

/-! ## Again and again -/
def pass (step : Fx → Fm → Fx) (fs : List Fm) (F : Fx) : Fx := fs.foldl step F
def itF (p : Fx → Fx) : Nat → Fx → Fx
  | 0, F => F
  | n + 1, F => p (itF p n F)
/-- What comes of steps, again and again, till nothing changes. -/
def Grown (step : Fx → Fm → Fx) (fs : List Fm) (F0 F : Fx) : Prop := pass step fs F = F ∧ ∃ k, F = itF (pass step fs) k F0
theorem itF_fix {p : Fx → Fx} {F0 : Fx} {k : Nat} (h : p (itF p k F0) = itF p k F0) : ∀ j, itF p (k + j) F0 = itF p k F0
  | 0 => rfl
  | j + 1 => by rw [← Nat.add_assoc, itF, itF_fix h j, h]
theorem Grown.det {step : Fx → Fm → Fx} {fs : List Fm} {F0 F G : Fx} (h : Grown step fs F0 F) (h' : Grown step fs F0 G) : F = G := by
  obtain ⟨h1, k, hk⟩ := h
  obtain ⟨h2, j, hj⟩ := h'
  rw [hk] at h1; rw [hj] at h2
  have e1 := itF_fix h1 j
  have e2 := itF_fix h2 k
  rw [hk, hj, ← e1, ← e2, Nat.add_comm]
structure Grows (step : Fx → Fm → Fx) (μ : Fx → Nat) : Prop where
  ok : ∀ F f, F.ok → (step F f).ok
  le : ∀ F f, F.ok → μ (step F f) ≤ μ F
  eq : ∀ F f, F.ok → μ (step F f) = μ F → step F f = F
theorem Grows.pass {step : Fx → Fm → Fx} {μ : Fx → Nat} (h : Grows step μ) : ∀ (fs : List Fm) (F : Fx), F.ok → (pass step fs F).ok ∧ μ (pass step fs F) ≤ μ F ∧ (μ (pass step fs F) = μ F → pass step fs F = F ∧ ∀ f ∈ fs, step F f = F)
  | [], F, hF => ⟨hF, Nat.le_refl _, fun _ => ⟨rfl, fun f hf => by cases hf⟩⟩
  | f :: fs, F, hF => by
    obtain ⟨h1, h2, h3⟩ := Grows.pass h fs (step F f) (h.ok F f hF)
    have h4 := h.le F f hF
    refine ⟨h1, Nat.le_trans h2 h4, fun he => ?_⟩
    have he : μ (Proofs.YthlaacnjgdmakaaDoor.pass step fs (step F f)) = μ F := he
    have e1 : μ (step F f) = μ F := by omega
    have e2 := h.eq F f hF e1
    obtain ⟨h5, h6⟩ := h3 (by omega)
    rw [e2] at h5 h6
    refine ⟨by show Proofs.YthlaacnjgdmakaaDoor.pass step fs (step F f) = F; rw [e2]; exact h5, fun f' hf' => ?_⟩
    rcases List.mem_cons.1 hf' with rfl | hf'
    · exact e2
    · exact h6 f' hf'

theorem zlen : (List.replicate 32 (Value.bool false) ++ List.replicate 128 (Value.int .u64 0)).length = 160 := by simp
theorem fm_rd (g : Gr) {f : Fm} (h : f ∈ g.fs) : f.rd ∈ g.rd := List.mem_cons_of_mem _ (List.mem_map_of_mem h)
theorem grow_spec (g : Gr) (hlen : g.fs.length ≤ 1000000) (hwf : ∀ f ∈ g.fs, f.wf) (fb gb : Nat) (fid : FuncId) (step : Fx → Fm → Fx) (μ : Fx → Nat) (hg : Grows step μ)
    (hstep : ∀ F, F.ok → ∀ f, f.wf → Fun Tryd.prog fid [.agg f.v.toArray, .pointer (some ⟨fb, 0, none⟩)] [f.rd] [pts fb F.v] fun _ H => H = [pts fb (step F f).v]) (F0 : Fx) (hF0 : F0.ok) :
    Fun Tryd.prog 84 [.func (.func fid) ⟨[]⟩ ⟨[.pointer (some ⟨fb, 0, none⟩)]⟩, .pointer (some ⟨fb, 0, none⟩), .pointer (some ⟨gb, 0, none⟩)] (rdb gb g.v :: g.rd) [pts fb F0.v]
    fun _ H => ∃ F, Grown step g.fs F0 F ∧ F.ok ∧ H = [pts fb F.v] := by
  refine xenter (p := pg) Tryd.call84 Tryd.func84 fun C => ?_
  haveI := RP.rdb (RP.of C (X := rdb gb g.v) (by simp))
  have hr : RS C 2 g.a g.fs.length g.cap (fmsV g.fs) := RP.slR (RP.of C (X := slR 2 g.a g.fs.length g.cap (fmsV g.fs)) (by simp [Gr.rd]))
  have hfr : ∀ f ∈ g.fs, RP C f.rd := fun f hf => RP.of C (List.mem_cons_of_mem _ (fm_rd g hf))
  have hfl := fmsV_len g.fs
  refine xst ?_
  refine xst ?_
  refine xld rfl ?_ (hv := partF_all rfl (Fx.v_len hF0))
  refine xnew fun b4 => ?_
  refine xsta (cs := F0.v) rfl (Fx.v_len hF0) (Fx.v_one _) F0.v (put_all (by rw [Fx.v_len hF0, zlen])) (by rw [Fx.v_len hF0, zlen]; omega) ?_
  refine xop ?_
  refine xst ?_
  refine xst ?_
  refine G.loop (σ := Fx × Bool × Nat) (fun s => [(0, .func (.func fid) ⟨[]⟩ ⟨[.pointer (some ⟨fb, 0, none⟩)]⟩), (1, .pointer (some ⟨fb, 0, none⟩)), (2, .pointer (some ⟨gb, 0, none⟩)), (4, .pointer (some ⟨s.2.2, 0, none⟩)), (5, .bool s.2.1)]) (fun s => [pts s.2.2 s.1.v, pts fb s.1.v])
    (fun s => s.1.ok ∧ (∃ k, s.1 = itF (pass step g.fs) k F0) ∧ (s.2.1 = false → pass step g.fs s.1 = s.1)) (fun s => 2 * μ s.1 + s.2.1.toNat) (F0, true, b4) ⟨hF0, ⟨0, rfl⟩, fun h => by cases h⟩ ⟨rfl, rfl, rfl, rfl, rfl, trivial⟩ (Ent.refl _) ?_
  rintro ⟨F, more, b4⟩ ⟨hF, ⟨k, hk⟩, hm⟩
  simp only at hF hk hm
  have hvl := Fx.v_len hF
  obtain ⟨hpok, hple, hpeq⟩ := hg.pass g.fs F hF
  show G C _ [(0, .func (.func fid) ⟨[]⟩ ⟨[.pointer (some ⟨fb, 0, none⟩)]⟩), (1, .pointer (some ⟨fb, 0, none⟩)), (2, .pointer (some ⟨gb, 0, none⟩)), (4, .pointer (some ⟨b4, 0, none⟩)), (5, .bool more)] [pts b4 F.v, pts fb F.v]
  repeat (first | refine xst ?_ | refine xar ?_ | refine xop ?_ | refine xlen ?_ | refine xld rfl ?_ | refine xsto rfl ?_ | refine xno ?_ | refine xt ?_ | refine xf ?_ | refine xnu ?_)
  refine xb (fun hmore => ?_) (fun hmore => ?_)
  · subst hmore
    repeat (first | refine xst ?_ | refine xar ?_ | refine xop ?_ | refine xlen ?_ | refine xld rfl ?_ | refine xsto rfl ?_ | refine xno ?_ | refine xt ?_ | refine xf ?_ | refine xnu ?_)
    refine G.loop (σ := Nat × Fx) (fun s => [(0, .func (.func fid) ⟨[]⟩ ⟨[.pointer (some ⟨fb, 0, none⟩)]⟩), (1, .pointer (some ⟨fb, 0, none⟩)), (2, .pointer (some ⟨gb, 0, none⟩)), (4, .pointer (some ⟨b4, 0, none⟩)), (12, .slice g.a g.fs.length g.cap), (13, .int .i64 (g.fs.length : Int)), (14, .int .i64 (s.1 : Int))]) (fun s => [pts b4 F.v, pts fb s.2.v])
      (fun s => s.1 ≤ g.fs.length ∧ s.2.ok ∧ pass step g.fs F = pass step (g.fs.drop s.1) s.2) (fun s => g.fs.length - s.1) (0, F) ⟨Nat.zero_le _, hF, rfl⟩ ⟨rfl, rfl, rfl, rfl, rfl, rfl, rfl, trivial⟩ (Ent.refl _) ?_
    rintro ⟨i, F'⟩ ⟨hi, hF', hv⟩
    simp only at hi hF' hv
    have hvl' := Fx.v_len hF'
    show G C _ [(0, .func (.func fid) ⟨[]⟩ ⟨[.pointer (some ⟨fb, 0, none⟩)]⟩), (1, .pointer (some ⟨fb, 0, none⟩)), (2, .pointer (some ⟨gb, 0, none⟩)), (4, .pointer (some ⟨b4, 0, none⟩)), (12, .slice g.a g.fs.length g.cap), (13, .int .i64 (g.fs.length : Int)), (14, .int .i64 (i : Int))] [pts b4 F.v, pts fb F'.v]
    repeat (first | refine xst ?_ | refine xar ?_ | refine xop ?_ | refine xlen ?_ | refine xld rfl ?_ | refine xsto rfl ?_ | refine xno ?_ | refine xt ?_ | refine xf ?_ | refine xnu ?_)
    refine xd (q := (i : Int) < (g.fs.length : Int)) (fun h => ?_) (fun h => ?_)
    · have h : i < g.fs.length := by omega
      obtain ⟨fbb, fbo, hfa, hrb⟩ := hr.some (by omega)
      rw [hfa]
      haveI := hrb
      have hel := fmsV_get h
      have hd : g.fs.drop i = g.fs[i] :: g.fs.drop (i + 1) := List.drop_eq_getElem_cons h
      have hmem : g.fs[i] ∈ g.fs := List.getElem_mem h
      rw [hd] at hv
      generalize g.fs[i] = f at hel hd hmem hv
      haveI := hfr f hmem
      repeat (first | refine xst ?_ | refine xar ?_ | refine xop ?_ | refine xlen ?_ | refine xld rfl ?_ | refine xsto rfl ?_ | refine xno ?_ | refine xt ?_ | refine xf ?_ | refine xnu ?_)
      refine xix ?_ (hk := h)
      refine xldla rfl (i * 2) f.v rfl hel (by rw [hfl]; show i * 2 + 2 ≤ _; omega) ?_
      repeat (first | refine xst ?_ | refine xar ?_ | refine xop ?_ | refine xlen ?_ | refine xld rfl ?_ | refine xsto rfl ?_ | refine xno ?_ | refine xt ?_ | refine xf ?_ | refine xnu ?_)
      refine xnew fun p7 => ?_
      repeat (first | refine xst ?_ | refine xar ?_ | refine xop ?_ | refine xlen ?_ | refine xld rfl ?_ | refine xsto rfl ?_ | refine xno ?_ | refine xt ?_ | refine xf ?_ | refine xnu ?_)
      refine xcall (hstep F' hF' f (hwf f hmem)) ?_
      rintro v H rfl
      refine G.app ?_
      repeat (first | refine xst ?_ | refine xar ?_ | refine xop ?_ | refine xlen ?_ | refine xld rfl ?_ | refine xsto rfl ?_ | refine xno ?_ | refine xt ?_ | refine xf ?_ | refine xnu ?_)
      rw [← hfa]
      exact G.fin (i + 1, step F' f) ⟨⟨by show i + 1 ≤ _; omega, hg.ok F' f hF', hv⟩, by show g.fs.length - (i + 1) < g.fs.length - i; omega⟩ ⟨rfl, rfl, rfl, rfl, rfl, rfl, rfl, trivial⟩ ent_pick
    · rw [List.drop_eq_nil_of_le (by omega)] at hv
      have hv : pass step g.fs F = F' := hv
      rw [hv] at hpok hple hpeq
      refine xst ?_
      refine xst ?_
      refine xld rfl ?_ (hv := partF_all rfl hvl')
      refine xld rfl ?_ (hv := partF_all rfl hvl)
      have hsame := Fx.same hF' hF
      refine xeqb (xs := F'.v) (ys := F.v) rfl eq_facts hvl' hvl hsame ?_
      refine xE 24 (.bool (decide (F' ≠ F))) rfl ?_ ?_
      · have h1 := eqBV_iff hsame
        refine congrArg Value.bool ?_
        by_cases he : F' = F
        · subst he; rw [h1.2 rfl]; simp
        · have : eqBV F'.v F.v = false := by
            cases hb : eqBV F'.v F.v with
            | false => rfl
            | true => exact absurd (Fx.v_inj hF' hF (h1.1 hb)) he
          rw [this]; simp [he]
      refine xop ?_
      refine xst ?_
      refine xst ?_
      refine xst ?_
      refine xst ?_
      refine xst ?_
      refine xld rfl ?_ (hv := partF_all rfl hvl)
      refine xst ?_
      refine xst ?_
      refine xnew fun b9 => ?_
      refine xsta (cs := F.v) rfl hvl (Fx.v_one _) F.v (put_all (by rw [hvl, zlen])) (by rw [hvl, zlen]; omega) ?_
      refine xst ?_
      refine xst ?_
      refine xld rfl ?_ (hv := partF_all rfl hvl')
      refine xsta (cs := F'.v) rfl hvl' (Fx.v_one _) F'.v (put_all (by rw [hvl, hvl'])) (by rw [hvl, hvl']; omega) ?_
      refine xst ?_
      refine G.fin (F', decide (F' ≠ F), b9) ⟨⟨hF', ⟨k + 1, ?_⟩, fun hd => ?_⟩, ?_⟩ ⟨rfl, rfl, rfl, rfl, rfl, trivial⟩ ?_
      · show F' = pass step g.fs (itF (pass step g.fs) k F0)
        rw [← hk, hv]
      · show pass step g.fs F' = F'
        have : F' = F := by simpa using hd
        rw [this]; rw [this] at hv; exact hv
      · show 2 * μ F' + (decide (F' ≠ F)).toNat < 2 * μ F + 1
        by_cases he : F' = F
        · subst he; simp
        · have : μ F' ≠ μ F := fun e => he (hpeq e).1
          have h3 := Bool.toNat_le (decide (F' ≠ F))
          omega
      · show Ent _ [pts b9 F'.v, pts fb F'.v]
        exact ent_pick
  · subst hmore
    repeat (first | refine xst ?_ | refine xar ?_ | refine xop ?_ | refine xlen ?_ | refine xld rfl ?_ | refine xsto rfl ?_ | refine xno ?_ | refine xt ?_ | refine xf ?_ | refine xnu ?_)
    exact xdonep [1] ⟨F, ⟨hm rfl, k, hk⟩, hF, rfl⟩
end Go.Proofs.YthlaacnjgdmakaaDoor

/- gram: study. -/
namespace Go.Proofs.YthlaacnjgdmakaaDoor
open Go.W

/-! ## Steps only add -/
def wgB (b : Bool) : Nat := if b then 0 else 1
def wgS (x : Nat) : Nat := 2 ^ 256 - x
def Fx.mu (F : Fx) : Nat := (F.text.map wgB).sum + (F.null.map wgB).sum + (F.first.map wgS).sum + (F.follow.map wgS).sum
theorem sum_set {α : Type} (w : α → Nat) (d : α) : ∀ (l : List α) (k : Nat) (y : α), w y ≤ w (l.getD k d) → (w y = w (l.getD k d) → y = l.getD k d) →
    ((l.set k y).map w).sum ≤ (l.map w).sum ∧ (((l.set k y).map w).sum = (l.map w).sum → l.set k y = l)
  | [], _, _, _, _ => by simp
  | x :: l, 0, y, h1, h2 => by
    simp only [List.getD_cons_zero] at h1 h2
    simp only [List.set_cons_zero, List.map_cons, List.sum_cons]
    refine ⟨by omega, fun h => by rw [h2 (by omega)]⟩
  | x :: l, k + 1, y, h1, h2 => by
    simp only [List.getD_cons_succ] at h1 h2
    obtain ⟨h3, h4⟩ := sum_set w d l k y h1 h2
    simp only [List.set_cons_succ, List.map_cons, List.sum_cons]
    refine ⟨by omega, fun h => by rw [h4 (by omega)]⟩
def Up (F G : Fx) : Prop := G.mu ≤ F.mu ∧ (G.mu = F.mu → G = F)
theorem Up.refl (F : Fx) : Up F F := ⟨Nat.le_refl _, fun _ => rfl⟩
theorem Up.trans {F G H : Fx} (h : Up F G) (h' : Up G H) : Up F H := by
  obtain ⟨h1, h2⟩ := h
  obtain ⟨h3, h4⟩ := h'
  refine ⟨Nat.le_trans h3 h1, fun e => ?_⟩
  have e1 := h2 (by omega)
  subst e1
  exact h4 e
theorem wgB_or (a b : Bool) : wgB (a || b) ≤ wgB a ∧ (wgB (a || b) = wgB a → (a || b) = a) := by cases a <;> cases b <;> simp [wgB]
theorem wgS_or {a b : Nat} (hb : (a ||| b) < 2 ^ 256) : wgS (a ||| b) ≤ wgS a ∧ (wgS (a ||| b) = wgS a → (a ||| b) = a) := by
  have h : a ≤ a ||| b := Nat.left_le_or
  unfold wgS
  refine ⟨by omega, fun e => by omega⟩
theorem up_setTx (F : Fx) (k : Nat) (b : Bool) : Up F (F.setTx k (F.tx k || b)) := by
  obtain ⟨h1, h2⟩ := wgB_or (F.tx k) b
  obtain ⟨h3, h4⟩ := sum_set wgB false F.text k (F.tx k || b) h1 h2
  refine ⟨by unfold Fx.mu Fx.setTx; simp only; omega, fun e => ?_⟩
  unfold Fx.mu Fx.setTx at e
  simp only at e
  unfold Fx.setTx; rw [h4 (by omega)]
theorem up_setNl (F : Fx) (k : Nat) (b : Bool) : Up F (F.setNl k (F.nl k || b)) := by
  obtain ⟨h1, h2⟩ := wgB_or (F.nl k) b
  obtain ⟨h3, h4⟩ := sum_set wgB false F.null k (F.nl k || b) h1 h2
  refine ⟨by unfold Fx.mu Fx.setNl; simp only; omega, fun e => ?_⟩
  unfold Fx.mu Fx.setNl at e
  simp only at e
  unfold Fx.setNl; rw [h4 (by omega)]
theorem up_setFi (F : Fx) (k : Nat) (x : Nat) (hx : (F.fi k ||| x) < 2 ^ 256) : Up F (F.setFi k (F.fi k ||| x)) := by
  obtain ⟨h1, h2⟩ := wgS_or hx
  obtain ⟨h3, h4⟩ := sum_set wgS 0 F.first k (F.fi k ||| x) h1 h2
  refine ⟨by unfold Fx.mu Fx.setFi; simp only; omega, fun e => ?_⟩
  unfold Fx.mu Fx.setFi at e
  simp only at e
  unfold Fx.setFi; rw [h4 (by omega)]
theorem up_setFo (F : Fx) (k : Nat) (x : Nat) (hx : (F.fo k ||| x) < 2 ^ 256) : Up F (F.setFo k (F.fo k ||| x)) := by
  obtain ⟨h1, h2⟩ := wgS_or hx
  obtain ⟨h3, h4⟩ := sum_set wgS 0 F.follow k (F.fo k ||| x) h1 h2
  refine ⟨by unfold Fx.mu Fx.setFo; simp only; omega, fun e => ?_⟩
  unfold Fx.mu Fx.setFo at e
  simp only at e
  unfold Fx.setFo; rw [h4 (by omega)]
theorem up_stepC1 (n : Nat) : ∀ (l : List Sg) {F : Fx}, F.ok → Up F (stepC1 n F l)
  | [], F, _ => Up.refl F
  | s :: r, F, hF => by
    rw [stepC1_cons]
    split
    · exact up_stepC1 n r hF
    · have hx : (F.fo s.name.toNat ||| startF F r) < 2 ^ 256 := Nat.or_lt_two_pow (hF.fo_lt _) (startF_lt hF _)
      have h1 := up_setFo F s.name.toNat (startF F r) hx
      have hok := hF.setFo s.name.toNat hx
      generalize F.setFo s.name.toNat (F.fo s.name.toNat ||| startF F r) = F1 at h1 hok ⊢
      refine h1.trans ?_
      split
      · have hx : (F1.fo s.name.toNat ||| F1.fo n) < 2 ^ 256 := Nat.or_lt_two_pow (hok.fo_lt _) (hok.fo_lt _)
        exact (up_setFo F1 _ _ hx).trans (up_stepC1 n r (hok.setFo _ hx))
      · exact up_stepC1 n r hok
theorem growsA : Grows stepA Fx.mu := by
  have h : ∀ F f, Up F (stepA F f) := fun F f => (up_setTx F _ _).trans (up_setNl _ _ _)
  exact ⟨fun F f hF => stepA_ok hF f, fun F f _ => (h F f).1, fun F f _ => (h F f).2⟩
theorem growsB : Grows stepB Fx.mu := by
  have h : ∀ F f, F.ok → Up F (stepB F f) := fun F f hF => up_setFi F _ _ (Nat.or_lt_two_pow (hF.fi_lt _) (startF_lt hF _))
  exact ⟨fun F f hF => stepB_ok hF f, fun F f hF => (h F f hF).1, fun F f hF => (h F f hF).2⟩
theorem growsC : Grows stepC Fx.mu := by
  have h : ∀ F f, F.ok → Up F (stepC F f) := fun F f hF => up_stepC1 _ _ hF
  exact ⟨fun F f hF => stepC_ok hF f, fun F f hF => (h F f hF).1, fun F f hF => (h F f hF).2⟩

/-- The facts of a well formed grammar. -/
def Study (fs : List Fm) (F : Fx) : Prop := ∃ F1 F2, Grown stepA fs Fx.zero F1 ∧ Grown stepB fs F1 F2 ∧ Grown stepC fs F2 F
theorem Study.det {fs : List Fm} {F G : Fx} (h : Study fs F) (h' : Study fs G) : F = G := by
  obtain ⟨F1, F2, h1, h2, h3⟩ := h
  obtain ⟨G1, G2, g1, g2, g3⟩ := h'
  have := h1.det g1; subst this
  have := h2.det g2; subst this
  exact h3.det g3

theorem study_spec (g : Gr) (hlen : g.fs.length ≤ 1000000) (hwf : ∀ f ∈ g.fs, f.wf) : Fun Tryd.prog 60 [.agg g.v.toArray] g.rd [] fun v H => ∃ F, Study g.fs F ∧ F.ok ∧ v = .agg F.v.toArray ∧ H = [] := by
  refine xenter (p := pg) Tryd.call60 Tryd.func60 fun C => ?_
  haveI hrd : ∀ H, RdAll C H g.rd := fun H => ⟨fun r hr => by haveI := RP.of C hr; infer_instance⟩
  refine xst ?_
  refine xst ?_
  refine xnew fun gb => ?_
  refine xrep 0 g.v rfl rfl ?_
  refine xnew fun rb => ?_
  refine xst ?_
  refine xst ?_
  refine xst ?_
  refine xnew fun fb => ?_
  refine xrep 0 Fx.zero.v rfl rfl ?_
  repeat (first | refine xst ?_ | refine xar ?_ | refine xop ?_ | refine xlen ?_ | refine xld rfl ?_ | refine xsto rfl ?_ | refine xno ?_ | refine xt ?_ | refine xf ?_ | refine xnu ?_)
  refine xcall (grow_spec g hlen hwf fb gb 85 stepA Fx.mu growsA (fun F hF f hf => studyA_spec F hF fb f hf) Fx.zero Fx.ok_zero) ?_
  rintro v H ⟨F1, hF1, ok1, rfl⟩
  refine G.app ?_
  repeat (first | refine xst ?_ | refine xar ?_ | refine xop ?_ | refine xlen ?_ | refine xld rfl ?_ | refine xsto rfl ?_ | refine xno ?_ | refine xt ?_ | refine xf ?_ | refine xnu ?_)
  refine xcall (grow_spec g hlen hwf fb gb 87 stepB Fx.mu growsB (fun F hF f hf => studyB_spec F hF fb f hf) F1 ok1) ?_
  rintro v H ⟨F2, hF2, ok2, rfl⟩
  refine G.app ?_
  repeat (first | refine xst ?_ | refine xar ?_ | refine xop ?_ | refine xlen ?_ | refine xld rfl ?_ | refine xsto rfl ?_ | refine xno ?_ | refine xt ?_ | refine xf ?_ | refine xnu ?_)
  refine xcall (grow_spec g hlen hwf fb gb 89 stepC Fx.mu growsC (fun F hF f hf => studyC_spec F hF fb f hf) F2 ok2) ?_
  rintro v H ⟨F3, hF3, ok3, rfl⟩
  refine G.app ?_
  have hvl := Fx.v_len ok3
  refine xst ?_
  refine xst ?_
  refine xst ?_
  refine xld rfl ?_ (hv := partF_all rfl hvl)
  refine xsta (cs := F3.v) rfl hvl (Fx.v_one _) F3.v (put_all (by rw [hvl, zlen])) (by rw [hvl, zlen]; omega) ?_
  refine xst ?_
  exact xretm [] rfl (.c .nil rfl rfl (partF_all rfl hvl)) ⟨F3, ⟨F1, F2, hF1, hF2, hF3⟩, ok3, rfl, rfl⟩
end Go.Proofs.YthlaacnjgdmakaaDoor

/- gram: shape. -/
namespace Go.Proofs.YthlaacnjgdmakaaDoor
open Go.W

def fmOk (names : Int) (f : Fm) : Bool := decide (0 ≤ f.name) && (decide (f.name < names) && (decide (f.body.length ≤ 8) && f.body.all fun s => decide (s.name < names)))
def shGo (names : Int) : Nat → List Fm → List (Int × Int)
  | _, [] => []
  | i, f :: r => if fmOk names f then shGo names (i + 1) r else newF 1 i
def shapeF (g : Gr) : List (Int × Int) := if g.names < 1 ∨ g.names > 16 ∨ g.fs.length > 48 then newF 1 0 else shGo g.names 0 g.fs
theorem shGo_nil {names : Int} : ∀ {i : Nat} {l : List Fm}, shGo names i l = [] → ∀ f ∈ l, fmOk names f = true
  | _, [], _, f, hf => by cases hf
  | i, f :: r, h, f', hf => by
    unfold shGo at h
    split at h
    · rename_i h1
      rcases List.mem_cons.1 hf with rfl | hf
      · exact h1
      · exact shGo_nil h f' hf
    · simp [newF] at h
theorem shapeF_nil {g : Gr} (h : shapeF g = []) : 1 ≤ g.names ∧ g.names ≤ 16 ∧ g.fs.length ≤ 48 ∧ ∀ f ∈ g.fs, f.wf ∧ f.name < g.names ∧ f.body.length ≤ 8 ∧ ∀ s ∈ f.body, s.name < g.names := by
  unfold shapeF at h
  split at h
  · simp [newF] at h
  · refine ⟨by omega, by omega, by omega, fun f hf => ?_⟩
    have := shGo_nil h f hf
    unfold fmOk at this
    simp only [Bool.and_eq_true, decide_eq_true_eq, List.all_eq_true] at this
    obtain ⟨h1, h2, h3, h4⟩ := this
    exact ⟨⟨h1, by omega, fun s hs => by have := h4 s hs; omega, by omega⟩, h2, h3, h4⟩

theorem sgs_name {l : List Sg} {k : Nat} (h : k < l.length) : (sgsV l)[k * 3]? = some (.int .i64 l[k].name) := by
  have := sgsV_get h
  have h2 : ((sgsV l).drop (k * 3))[0]? = some (.int .i64 l[k].name) := by
    have h3 : (((sgsV l).drop (k * 3)).take 3)[0]? = some (.int .i64 l[k].name) := by rw [this]; rfl
    rw [List.getElem?_take_of_lt (by omega)] at h3; exact h3
  rw [List.getElem?_drop] at h2; exact h2
theorem shape_spec (g : Gr) (hlen : g.fs.length ≤ 1000000) (hbl : ∀ f ∈ g.fs, f.body.length ≤ 1000000) : Fun Tryd.prog 59 [.agg g.v.toArray] g.rd [] fun v H => H = [chain (shapeF g) v] := by
  refine xenter (p := pg) Tryd.call59 Tryd.func59 fun C => ?_
  have hr : RS C 2 g.a g.fs.length g.cap (fmsV g.fs) := RP.slR (RP.of C (X := slR 2 g.a g.fs.length g.cap (fmsV g.fs)) (by simp [Gr.rd]))
  have hfr : ∀ f ∈ g.fs, RS C 3 f.a f.body.length f.cap (sgsV f.body) := fun f hf => RP.slR (RP.of C (fm_rd g hf))
  have hfl := fmsV_len g.fs
  have hbad : ∀ (h : g.names < 1 ∨ g.names > 16 ∨ g.fs.length > 48), newF 1 0 = shapeF g := fun h => by unfold shapeF; rw [if_pos h]
  refine xst ?_
  refine xst ?_
  refine xnew fun gb => ?_
  refine xrep 0 g.v rfl rfl ?_
  repeat (first | refine xst ?_ | refine xar ?_ | refine xop ?_ | refine xlen ?_ | refine xld rfl ?_ | refine xsto rfl ?_ | refine xno ?_ | refine xt ?_ | refine xf ?_ | refine xnu ?_)
  refine xbc (q := g.names < 1) 10 (fun h1 => ?_) (fun h1 => ?_)
  · repeat (first | refine xst ?_ | refine xar ?_ | refine xop ?_ | refine xlen ?_ | refine xld rfl ?_ | refine xsto rfl ?_ | refine xno ?_ | refine xt ?_ | refine xf ?_ | refine xnu ?_)
    refine xcall (new_spec 1 0) ?_
    rintro v H rfl
    refine G.app ?_
    repeat (first | refine xst ?_ | refine xar ?_ | refine xop ?_ | refine xlen ?_ | refine xld rfl ?_ | refine xsto rfl ?_ | refine xno ?_ | refine xt ?_ | refine xf ?_ | refine xnu ?_)
    refine xretp [0] ?_
    rw [hbad (.inl h1)]; rfl
  repeat (first | refine xst ?_ | refine xar ?_ | refine xop ?_ | refine xlen ?_ | refine xld rfl ?_ | refine xsto rfl ?_ | refine xno ?_ | refine xt ?_ | refine xf ?_ | refine xnu ?_)
  refine xbc (q := 16 < g.names) 15 (fun h2 => ?_) (fun h2 => ?_)
  · repeat (first | refine xst ?_ | refine xar ?_ | refine xop ?_ | refine xlen ?_ | refine xld rfl ?_ | refine xsto rfl ?_ | refine xno ?_ | refine xt ?_ | refine xf ?_ | refine xnu ?_)
    refine xcall (new_spec 1 0) ?_
    rintro v H rfl
    refine G.app ?_
    repeat (first | refine xst ?_ | refine xar ?_ | refine xop ?_ | refine xlen ?_ | refine xld rfl ?_ | refine xsto rfl ?_ | refine xno ?_ | refine xt ?_ | refine xf ?_ | refine xnu ?_)
    refine xretp [0] ?_
    rw [hbad (.inr (.inl h2))]; rfl
  repeat (first | refine xst ?_ | refine xar ?_ | refine xop ?_ | refine xlen ?_ | refine xld rfl ?_ | refine xsto rfl ?_ | refine xno ?_ | refine xt ?_ | refine xf ?_ | refine xnu ?_)
  refine xd (q := (48 : Int) < (g.fs.length : Int)) (fun h3 => ?_) (fun h3 => ?_)
  · repeat (first | refine xst ?_ | refine xar ?_ | refine xop ?_ | refine xlen ?_ | refine xld rfl ?_ | refine xsto rfl ?_ | refine xno ?_ | refine xt ?_ | refine xf ?_ | refine xnu ?_)
    refine xcall (new_spec 1 0) ?_
    rintro v H rfl
    refine G.app ?_
    repeat (first | refine xst ?_ | refine xar ?_ | refine xop ?_ | refine xlen ?_ | refine xld rfl ?_ | refine xsto rfl ?_ | refine xno ?_ | refine xt ?_ | refine xf ?_ | refine xnu ?_)
    refine xretp [0] ?_
    rw [hbad (.inr (.inr (by omega)))]; rfl
  have hsh : shapeF g = shGo g.names 0 g.fs := by unfold shapeF; rw [if_neg (by omega)]
  repeat (first | refine xst ?_ | refine xar ?_ | refine xop ?_ | refine xlen ?_ | refine xld rfl ?_ | refine xsto rfl ?_ | refine xno ?_ | refine xt ?_ | refine xf ?_ | refine xnu ?_)
  refine G.loop (σ := Nat) (fun i => [(1, .pointer (some ⟨gb, 0, none⟩)), (23, .slice g.a g.fs.length g.cap), (24, .int .i64 (g.fs.length : Int)), (25, .int .i64 (i : Int))])
    (fun _ => [pts gb g.v]) (fun i => i ≤ g.fs.length ∧ shapeF g = shGo g.names i (g.fs.drop i)) (fun i => g.fs.length - i) 0 ⟨Nat.zero_le _, hsh⟩ ⟨rfl, rfl, rfl, rfl, trivial⟩ (Ent.refl _) ?_
  rintro i ⟨hi, hv⟩
  have hi : i ≤ g.fs.length := hi
  show G C _ [(1, .pointer (some ⟨gb, 0, none⟩)), (23, .slice g.a g.fs.length g.cap), (24, .int .i64 (g.fs.length : Int)), (25, .int .i64 (i : Int))] [pts gb g.v]
  repeat (first | refine xst ?_ | refine xar ?_ | refine xop ?_ | refine xlen ?_ | refine xld rfl ?_ | refine xsto rfl ?_ | refine xno ?_ | refine xt ?_ | refine xf ?_ | refine xnu ?_)
  refine xd (q := (i : Int) < (g.fs.length : Int)) (fun h => ?_) (fun h => ?_)
  · have h : i < g.fs.length := by omega
    obtain ⟨fbb, fbo, hfa, hrb⟩ := hr.some (by omega)
    rw [hfa]
    haveI := hrb
    have hel := fmsV_get h
    have hd : g.fs.drop i = g.fs[i] :: g.fs.drop (i + 1) := List.drop_eq_getElem_cons h
    have hmem : g.fs[i] ∈ g.fs := List.getElem_mem h
    rw [hd] at hv
    generalize g.fs[i] = f at hel hd hmem hv
    have hbf := hfr f hmem
    have hbl := hbl f hmem
    obtain ⟨nm, fa, fcap, body⟩ := f
    simp only at hbf hbl
    have hv : shapeF g = if fmOk g.names ⟨nm, fa, fcap, body⟩ then shGo g.names (i + 1) (g.fs.drop (i + 1)) else newF 1 i := hv
    have hfok : fmOk g.names ⟨nm, fa, fcap, body⟩ = (decide (0 ≤ nm) && (decide (nm < g.names) && (decide (body.length ≤ 8) && body.all fun s => decide (s.name < g.names)))) := rfl
    generalize hgood : fmOk g.names ⟨nm, fa, fcap, body⟩ = good at hv hfok
    repeat (first | refine xst ?_ | refine xar ?_ | refine xop ?_ | refine xlen ?_ | refine xld rfl ?_ | refine xsto rfl ?_ | refine xno ?_ | refine xt ?_ | refine xf ?_ | refine xnu ?_)
    refine xix ?_ (hk := h)
    refine xldla rfl (i * 2) (Fm.v ⟨nm, fa, fcap, body⟩) rfl hel (by rw [hfl]; show i * 2 + 2 ≤ _; omega) ?_
    repeat (first | refine xst ?_ | refine xar ?_ | refine xop ?_ | refine xlen ?_ | refine xld rfl ?_ | refine xsto rfl ?_ | refine xno ?_ | refine xt ?_ | refine xf ?_ | refine xnu ?_)
    refine xnew fun p4 => ?_
    refine xop ?_
    refine xsto rfl ?_
    refine xrep 0 (Fm.v ⟨nm, fa, fcap, body⟩) rfl rfl ?_
    refine xst ?_
    refine xst ?_
    refine G.cut (σ := Bool) (fun b => [(1, .pointer (some ⟨gb, 0, none⟩)), (23, .slice (some ⟨fbb, fbo, none⟩) g.fs.length g.cap), (24, .int .i64 (g.fs.length : Int)), (25, .int .i64 (i : Int)), (3, .int .i64 (i : Int)), (4, .pointer (some ⟨p4, 0, none⟩)), (5, .bool b)])
      (fun _ => [pts p4 (Fm.v ⟨nm, fa, fcap, body⟩), pts gb g.v]) (fun b => good = (b && body.all fun s => decide (s.name < g.names))) ?_ ?_
    · repeat (first | refine xst ?_ | refine xar ?_ | refine xop ?_ | refine xlen ?_ | refine xld rfl ?_ | refine xsto rfl ?_ | refine xno ?_ | refine xt ?_ | refine xf ?_ | refine xnu ?_)
      refine xbc (q := 0 ≤ nm) 33 (fun a1 => ?_) (fun a1 => ?_)
      · repeat (first | refine xst ?_ | refine xar ?_ | refine xop ?_ | refine xlen ?_ | refine xld rfl ?_ | refine xsto rfl ?_ | refine xno ?_ | refine xt ?_ | refine xf ?_ | refine xnu ?_)
        refine xbc (q := nm < g.names) 40 (fun a2 => ?_) (fun a2 => ?_)
        · repeat (first | refine xst ?_ | refine xar ?_ | refine xop ?_ | refine xlen ?_ | refine xld rfl ?_ | refine xsto rfl ?_ | refine xno ?_ | refine xt ?_ | refine xf ?_ | refine xnu ?_)
          exact G.fin (decide ((body.length : Int) ≤ 8)) (by rw [hfok, decide_eq_true a1, decide_eq_true a2, Bool.true_and, Bool.true_and]; congr 1; exact decide_eq_decide.2 (by omega)) ⟨rfl, rfl, rfl, rfl, rfl, rfl, rfl, trivial⟩ (Ent.refl _)
        · repeat (first | refine xst ?_ | refine xar ?_ | refine xop ?_ | refine xlen ?_ | refine xld rfl ?_ | refine xsto rfl ?_ | refine xno ?_ | refine xt ?_ | refine xf ?_ | refine xnu ?_)
          exact G.fin false (by rw [hfok, decide_eq_true a1, decide_eq_false a2]; rfl) ⟨rfl, rfl, rfl, rfl, rfl, rfl, rfl, trivial⟩ (Ent.refl _)
      · repeat (first | refine xst ?_ | refine xar ?_ | refine xop ?_ | refine xlen ?_ | refine xld rfl ?_ | refine xsto rfl ?_ | refine xno ?_ | refine xt ?_ | refine xf ?_ | refine xnu ?_)
        exact G.fin false (by rw [hfok, decide_eq_false a1]; rfl) ⟨rfl, rfl, rfl, rfl, rfl, rfl, rfl, trivial⟩ (Ent.refl _)
    rintro b hb
    have hb : good = (b && body.all fun s => decide (s.name < g.names)) := hb
    show G C _ [(1, .pointer (some ⟨gb, 0, none⟩)), (23, .slice (some ⟨fbb, fbo, none⟩) g.fs.length g.cap), (24, .int .i64 (g.fs.length : Int)), (25, .int .i64 (i : Int)), (3, .int .i64 (i : Int)), (4, .pointer (some ⟨p4, 0, none⟩)), (5, .bool b)] [pts p4 (Fm.v ⟨nm, fa, fcap, body⟩), pts gb g.v]
    repeat (refine xnot 6 ?_; first | refine xst ?_ | refine xar ?_ | refine xop ?_ | refine xlen ?_ | refine xld rfl ?_ | refine xsto rfl ?_ | refine xno ?_ | refine xt ?_ | refine xf ?_ | refine xnu ?_)
    refine xst ?_
    refine G.cut (σ := Unit) (fun _ => [(1, .pointer (some ⟨gb, 0, none⟩)), (23, .slice (some ⟨fbb, fbo, none⟩) g.fs.length g.cap), (24, .int .i64 (g.fs.length : Int)), (25, .int .i64 (i : Int)), (3, .int .i64 (i : Int)), (5, .bool good)]) (fun _ => [pts gb g.v]) (fun _ => True) ?_ ?_
    · repeat (first | refine xst ?_ | refine xar ?_ | refine xop ?_ | refine xlen ?_ | refine xld rfl ?_ | refine xsto rfl ?_ | refine xno ?_ | refine xt ?_ | refine xf ?_ | refine xnu ?_)
      refine G.loop (σ := Bool × Nat) (fun s => [(1, .pointer (some ⟨gb, 0, none⟩)), (23, .slice (some ⟨fbb, fbo, none⟩) g.fs.length g.cap), (24, .int .i64 (g.fs.length : Int)), (25, .int .i64 (i : Int)), (3, .int .i64 (i : Int)), (4, .pointer (some ⟨p4, 0, none⟩)), (5, .bool s.1), (6, .int .i64 (s.2 : Int))]) (fun _ => [pts p4 (Fm.v ⟨nm, fa, fcap, body⟩), pts gb g.v])
        (fun s => s.2 ≤ body.length ∧ good = (s.1 && (body.drop s.2).all fun s => decide (s.name < g.names))) (fun s => body.length - s.2) (b, 0) ⟨Nat.zero_le _, hb⟩ ⟨rfl, rfl, rfl, rfl, rfl, rfl, rfl, rfl, trivial⟩ (Ent.refl _) ?_
      rintro ⟨b, j⟩ ⟨hj, hb⟩
      simp only at hj hb
      show G C _ [(1, .pointer (some ⟨gb, 0, none⟩)), (23, .slice (some ⟨fbb, fbo, none⟩) g.fs.length g.cap), (24, .int .i64 (g.fs.length : Int)), (25, .int .i64 (i : Int)), (3, .int .i64 (i : Int)), (4, .pointer (some ⟨p4, 0, none⟩)), (5, .bool b), (6, .int .i64 (j : Int))] [pts p4 (Fm.v ⟨nm, fa, fcap, body⟩), pts gb g.v]
      repeat (first | refine xst ?_ | refine xar ?_ | refine xop ?_ | refine xlen ?_ | refine xld rfl ?_ | refine xsto rfl ?_ | refine xno ?_ | refine xt ?_ | refine xf ?_ | refine xnu ?_)
      refine xbb 47 (fun hbt => ?_) (fun hbt => ?_)
      · repeat (first | refine xst ?_ | refine xar ?_ | refine xop ?_ | refine xlen ?_ | refine xld rfl ?_ | refine xsto rfl ?_ | refine xno ?_ | refine xt ?_ | refine xf ?_ | refine xnu ?_)
        refine xd (q := (j : Int) < (body.length : Int)) (fun hj2 => ?_) (fun hj2 => ?_)
        · have hj2 : j < body.length := by omega
          rw [List.drop_eq_getElem_cons hj2, List.all_cons, hbt, Bool.true_and] at hb
          obtain ⟨bb, bo, rfl, hbs⟩ := hbf.some (by omega)
          haveI := hbs
          repeat (first | refine xst ?_ | refine xar ?_ | refine xop ?_ | refine xlen ?_ | refine xld rfl ?_ | refine xsto rfl ?_ | refine xno ?_ | refine xt ?_ | refine xf ?_ | refine xnu ?_)
          refine xdraw ?_
          refine xdop 0 ?_
          refine xdld 1 rfl rfl ?_
          refine xdop 2 ?_
          refine xdix 3 ?_ (hk := hj2)
          refine xdop 4 ?_
          refine xdldl 5 rfl rfl (j * 3) (sgs_name hj2) (by omega) ?_
          refine xdop 6 ?_
          refine xdld 7 rfl rfl ?_
          refine xdop 8 ?_
          refine xdop 9 ?_
          refine xdend ?_
          repeat (first | refine xst ?_ | refine xar ?_ | refine xop ?_ | refine xlen ?_ | refine xld rfl ?_ | refine xsto rfl ?_ | refine xno ?_ | refine xt ?_ | refine xf ?_ | refine xnu ?_)
          exact G.fin (decide (body[j].name < g.names), j + 1) ⟨⟨by show j + 1 ≤ _; omega, hb⟩, by show body.length - (j + 1) < body.length - j; omega⟩ ⟨rfl, rfl, rfl, rfl, rfl, rfl, rfl, rfl, trivial⟩ (Ent.refl _)
        · rw [List.drop_eq_nil_of_le (by omega), List.all_nil, Bool.and_true] at hb
          subst hb
          repeat (first | refine xst ?_ | refine xar ?_ | refine xop ?_ | refine xlen ?_ | refine xld rfl ?_ | refine xsto rfl ?_ | refine xno ?_ | refine xt ?_ | refine xf ?_ | refine xnu ?_)
          exact G.fin () trivial ⟨rfl, rfl, rfl, rfl, rfl, rfl, trivial⟩ ent_pick
      · rw [hbt, Bool.false_and, ← hbt] at hb
        subst hb
        repeat (first | refine xst ?_ | refine xar ?_ | refine xop ?_ | refine xlen ?_ | refine xld rfl ?_ | refine xsto rfl ?_ | refine xno ?_ | refine xt ?_ | refine xf ?_ | refine xnu ?_)
        exact G.fin () trivial ⟨rfl, rfl, rfl, rfl, rfl, rfl, trivial⟩ ent_pick
    rintro _ _
    show G C _ [(1, .pointer (some ⟨gb, 0, none⟩)), (23, .slice (some ⟨fbb, fbo, none⟩) g.fs.length g.cap), (24, .int .i64 (g.fs.length : Int)), (25, .int .i64 (i : Int)), (3, .int .i64 (i : Int)), (5, .bool good)] [pts gb g.v]
    cases good with
    | true =>
      rw [if_pos rfl] at hv
      repeat (first | refine xst ?_ | refine xar ?_ | refine xop ?_ | refine xlen ?_ | refine xld rfl ?_ | refine xsto rfl ?_ | refine xno ?_ | refine xt ?_ | refine xf ?_ | refine xnu ?_)
      rw [← hfa]
      exact G.fin (i + 1) ⟨⟨by show i + 1 ≤ _; omega, hv⟩, by show g.fs.length - (i + 1) < g.fs.length - i; omega⟩ ⟨rfl, rfl, rfl, rfl, trivial⟩ (Ent.refl _)
    | false =>
      rw [if_neg (by simp)] at hv
      repeat (first | refine xst ?_ | refine xar ?_ | refine xop ?_ | refine xlen ?_ | refine xld rfl ?_ | refine xsto rfl ?_ | refine xno ?_ | refine xt ?_ | refine xf ?_ | refine xnu ?_)
      refine xcall (new_spec 1 i) ?_
      rintro v H rfl
      refine G.app ?_
      repeat (first | refine xst ?_ | refine xar ?_ | refine xop ?_ | refine xlen ?_ | refine xld rfl ?_ | refine xsto rfl ?_ | refine xno ?_ | refine xt ?_ | refine xf ?_ | refine xnu ?_)
      refine xretp [0] ?_
      rw [hv]; rfl
  · rw [List.drop_eq_nil_of_le (by omega)] at hv
    have hv : shapeF g = [] := hv
    repeat (first | refine xst ?_ | refine xar ?_ | refine xop ?_ | refine xlen ?_ | refine xld rfl ?_ | refine xsto rfl ?_ | refine xno ?_ | refine xt ?_ | refine xf ?_ | refine xnu ?_)
    refine G.fold (chain [] .nilIface) [] (fun w F _ => chain_nil w F) ?_
    refine xretp [0] ?_
    rw [hv]; rfl
end Go.Proofs.YthlaacnjgdmakaaDoor

/- gram: clashes. -/
namespace Go.Proofs.YthlaacnjgdmakaaDoor
open Go.W

def clGo (F : Fx) (name : Nat) : List Fm → Nat → Bool → Bool
  | [], seen, null => null && decide (seen &&& F.fo name ≠ 0)
  | f :: r, seen, null => if f.name ≠ (name : Int) then clGo F name r seen null else
    if (null && vanF F f.body) || decide (seen &&& startF F f.body ≠ 0) then true else clGo F name r (seen ||| startF F f.body) (null || vanF F f.body)
def clF (F : Fx) (fs : List Fm) (name : Nat) : Bool := clGo F name fs 0 false

theorem clashes_spec (F : Fx) (hF : F.ok) (fb : Nat) (g : Gr) (hlen : g.fs.length ≤ 1000000) (hwf : ∀ f ∈ g.fs, f.wf) (name : Nat) (hn : name < 16) :
    Fun Tryd.prog 61 [.pointer (some ⟨fb, 0, none⟩), .agg g.v.toArray, .int .i64 (name : Int)] (rdb fb F.v :: g.rd) [] fun v H => v = .bool (clF F g.fs name) ∧ H = [] := by
  refine xenter (p := pg) Tryd.call61 Tryd.func61 fun C => ?_
  haveI := RP.rdb (RP.of C (X := rdb fb F.v) (by simp))
  have hr : RS C 2 g.a g.fs.length g.cap (fmsV g.fs) := RP.slR (RP.of C (X := slR 2 g.a g.fs.length g.cap (fmsV g.fs)) (by simp [Gr.rd]))
  have hfr : ∀ f ∈ g.fs, RS C 3 f.a f.body.length f.cap (sgsV f.body) := fun f hf => RP.slR (RP.of C (List.mem_cons_of_mem _ (fm_rd g hf)))
  have hfl := fmsV_len g.fs
  refine xst ?_
  refine xst ?_
  refine xnew fun gb => ?_
  refine xrep 0 g.v rfl rfl ?_
  repeat (first | refine xst ?_ | refine xar ?_ | refine xop ?_ | refine xlen ?_ | refine xld rfl ?_ | refine xsto rfl ?_ | refine xno ?_ | refine xt ?_ | refine xf ?_ | refine xnu ?_)
  refine xnew fun sb => ?_
  refine xrep 0 (setV 0) rfl rfl ?_
  repeat (first | refine xst ?_ | refine xar ?_ | refine xop ?_ | refine xlen ?_ | refine xld rfl ?_ | refine xsto rfl ?_ | refine xno ?_ | refine xt ?_ | refine xf ?_ | refine xnu ?_)
  refine G.loop (σ := Nat × Nat × Bool) (fun s => [(0, .pointer (some ⟨fb, 0, none⟩)), (2, .int .i64 (name : Int)), (4, .pointer (some ⟨gb, 0, none⟩)), (7, .pointer (some ⟨sb, 0, none⟩)), (8, .bool s.2.2), (14, .slice g.a g.fs.length g.cap), (15, .int .i64 (g.fs.length : Int)), (16, .int .i64 (s.1 : Int))]) (fun s => [pts sb (setV s.2.1), pts gb g.v])
    (fun s => s.1 ≤ g.fs.length ∧ s.2.1 < 2 ^ 256 ∧ clF F g.fs name = clGo F name (g.fs.drop s.1) s.2.1 s.2.2) (fun s => g.fs.length - s.1) (0, 0, false) ⟨Nat.zero_le _, Nat.two_pow_pos 256, rfl⟩ ⟨rfl, rfl, rfl, rfl, rfl, rfl, rfl, rfl, trivial⟩ (Ent.refl _) ?_
  rintro ⟨i, seen, null⟩ ⟨hi, hseen, hv⟩
  simp only at hi hseen hv
  show G C _ [(0, .pointer (some ⟨fb, 0, none⟩)), (2, .int .i64 (name : Int)), (4, .pointer (some ⟨gb, 0, none⟩)), (7, .pointer (some ⟨sb, 0, none⟩)), (8, .bool null), (14, .slice g.a g.fs.length g.cap), (15, .int .i64 (g.fs.length : Int)), (16, .int .i64 (i : Int))] [pts sb (setV seen), pts gb g.v]
  repeat (first | refine xst ?_ | refine xar ?_ | refine xop ?_ | refine xlen ?_ | refine xld rfl ?_ | refine xsto rfl ?_ | refine xno ?_ | refine xt ?_ | refine xf ?_ | refine xnu ?_)
  refine xd (q := (i : Int) < (g.fs.length : Int)) (fun h => ?_) (fun h => ?_)
  · have h : i < g.fs.length := by omega
    obtain ⟨fbb, fbo, hfa, hrb⟩ := hr.some (by omega)
    rw [hfa]
    haveI := hrb
    have hel := fmsV_get h
    have hd : g.fs.drop i = g.fs[i] :: g.fs.drop (i + 1) := List.drop_eq_getElem_cons h
    have hmem : g.fs[i] ∈ g.fs := List.getElem_mem h
    rw [hd] at hv
    generalize g.fs[i] = f at hel hd hmem hv
    have hbf := hfr f hmem
    obtain ⟨h0, h16, hb16, hbl⟩ := hwf f hmem
    obtain ⟨nm, fa, fcap, body⟩ := f
    simp only at hbf h0 h16 hb16 hbl
    have hv : clF F g.fs name = if nm ≠ (name : Int) then clGo F name (g.fs.drop (i + 1)) seen null else
      if (null && vanF F body) || decide (seen &&& startF F body ≠ 0) then true else clGo F name (g.fs.drop (i + 1)) (seen ||| startF F body) (null || vanF F body) := hv
    repeat (first | refine xst ?_ | refine xar ?_ | refine xop ?_ | refine xlen ?_ | refine xld rfl ?_ | refine xsto rfl ?_ | refine xno ?_ | refine xt ?_ | refine xf ?_ | refine xnu ?_)
    refine xix ?_ (hk := h)
    refine xldla rfl (i * 2) (Fm.v ⟨nm, fa, fcap, body⟩) rfl hel (by rw [hfl]; show i * 2 + 2 ≤ _; omega) ?_
    repeat (first | refine xst ?_ | refine xar ?_ | refine xop ?_ | refine xlen ?_ | refine xld rfl ?_ | refine xsto rfl ?_ | refine xno ?_ | refine xt ?_ | refine xf ?_ | refine xnu ?_)
    refine xnew fun p10 => ?_
    refine xsto rfl ?_
    refine xrep 0 (Fm.v ⟨nm, fa, fcap, body⟩) rfl rfl ?_
    repeat (first | refine xst ?_ | refine xar ?_ | refine xop ?_ | refine xlen ?_ | refine xld rfl ?_ | refine xsto rfl ?_ | refine xno ?_ | refine xt ?_ | refine xf ?_ | refine xnu ?_)
    refine xd (q := nm ≠ (name : Int)) (fun hne => ?_) (fun hne => ?_)
    · rw [if_pos hne] at hv
      repeat (first | refine xst ?_ | refine xar ?_ | refine xop ?_ | refine xlen ?_ | refine xld rfl ?_ | refine xsto rfl ?_ | refine xno ?_ | refine xt ?_ | refine xf ?_ | refine xnu ?_)
      rw [← hfa]
      exact G.fin (i + 1, seen, null) ⟨⟨by show i + 1 ≤ _; omega, hseen, hv⟩, by show g.fs.length - (i + 1) < g.fs.length - i; omega⟩ ⟨rfl, rfl, rfl, rfl, rfl, rfl, rfl, rfl, trivial⟩ ent_pick
    rw [if_neg hne] at hv
    refine xst ?_
    refine xst ?_
    refine G.cut (σ := Nat) (fun b11 => [(0, .pointer (some ⟨fb, 0, none⟩)), (2, .int .i64 (name : Int)), (4, .pointer (some ⟨gb, 0, none⟩)), (7, .pointer (some ⟨sb, 0, none⟩)), (8, .bool null), (14, .slice (some ⟨fbb, fbo, none⟩) g.fs.length g.cap), (15, .int .i64 (g.fs.length : Int)), (16, .int .i64 (i : Int)), (11, .pointer (some ⟨b11, 0, none⟩)), (12, .bool (vanF F body))]) (fun b11 => [pts b11 (setV (startF F body)), pts sb (setV seen), pts gb g.v]) (fun _ => True) ?_ ?_
    · skip
      refine xdraw ?_
      refine xdop 0 ?_
      refine xdop 1 ?_
      refine xdld 2 rfl rfl ?_
      refine xdop 4 ?_
      refine xdop 5 ?_
      refine xdld 6 rfl rfl ?_
      refine xdact2 3 8 ?_ ?_
      · refine xcall (start_spec F hF fb fa fcap body hb16 hbl) ?_
        rintro v H ⟨rfl, rfl⟩
        refine G.app ?_
        refine xst ?_
        refine xdact2 7 8 ?_ ?_
        · refine xcall (vanishes_spec F hF fb fa fcap body hb16 hbl) ?_
          rintro v H ⟨rfl, rfl⟩
          refine G.app ?_
          refine xst ?_
          refine xdact 8 ?_
          refine xnew fun b11 => ?_
          refine xst ?_
          refine xdact 9 ?_
          refine xrep 0 (setV 0) rfl rfl ?_
          refine xsto rfl ?_
          refine xrep 0 (setV (startF F body)) rfl rfl ?_
          refine xst ?_
          refine xdop 10 ?_
          refine xdend ?_
          exact G.fin b11 trivial ⟨rfl, rfl, rfl, rfl, rfl, rfl, rfl, rfl, rfl, rfl, trivial⟩ ent_pick
        · refine xnew fun b11 => ?_
          refine xst ?_
          refine xdact 7 ?_
          refine xcall (vanishes_spec F hF fb fa fcap body hb16 hbl) ?_
          rintro v H ⟨rfl, rfl⟩
          refine G.app ?_
          refine xst ?_
          refine xdact 9 ?_
          refine xrep 0 (setV 0) rfl rfl ?_
          refine xsto rfl ?_
          refine xrep 0 (setV (startF F body)) rfl rfl ?_
          refine xst ?_
          refine xdop 10 ?_
          refine xdend ?_
          exact G.fin b11 trivial ⟨rfl, rfl, rfl, rfl, rfl, rfl, rfl, rfl, rfl, rfl, trivial⟩ ent_pick
      · refine xnew fun b11 => ?_
        refine xst ?_
        refine xdact 3 ?_
        refine xcall (start_spec F hF fb fa fcap body hb16 hbl) ?_
        rintro v H ⟨rfl, rfl⟩
        refine G.app ?_
        refine xst ?_
        refine xdact 7 ?_
        refine xcall (vanishes_spec F hF fb fa fcap body hb16 hbl) ?_
        rintro v H ⟨rfl, rfl⟩
        refine G.app ?_
        refine xst ?_
        refine xdact 9 ?_
        refine xrep 0 (setV 0) rfl rfl ?_
        refine xsto rfl ?_
        refine xrep 0 (setV (startF F body)) rfl rfl ?_
        refine xst ?_
        refine xdop 10 ?_
        refine xdend ?_
        exact G.fin b11 trivial ⟨rfl, rfl, rfl, rfl, rfl, rfl, rfl, rfl, rfl, rfl, trivial⟩ ent_pick
    rintro b11 _
    show G C _ [(0, .pointer (some ⟨fb, 0, none⟩)), (2, .int .i64 (name : Int)), (4, .pointer (some ⟨gb, 0, none⟩)), (7, .pointer (some ⟨sb, 0, none⟩)), (8, .bool null), (14, .slice (some ⟨fbb, fbo, none⟩) g.fs.length g.cap), (15, .int .i64 (g.fs.length : Int)), (16, .int .i64 (i : Int)), (11, .pointer (some ⟨b11, 0, none⟩)), (12, .bool (vanF F body))] [pts b11 (setV (startF F body)), pts sb (setV seen), pts gb g.v]
    refine xst ?_
    refine G.cut (σ := Unit) (fun _ => [(0, .pointer (some ⟨fb, 0, none⟩)), (2, .int .i64 (name : Int)), (4, .pointer (some ⟨gb, 0, none⟩)), (7, .pointer (some ⟨sb, 0, none⟩)), (8, .bool null), (14, .slice (some ⟨fbb, fbo, none⟩) g.fs.length g.cap), (15, .int .i64 (g.fs.length : Int)), (16, .int .i64 (i : Int)), (11, .pointer (some ⟨b11, 0, none⟩)), (12, .bool (vanF F body))]) (fun _ => [pts b11 (setV (startF F body)), pts sb (setV seen), pts gb g.v]) (fun _ => ((null && vanF F body) || decide (seen &&& startF F body ≠ 0)) = false) ?_ ?_
    · repeat (first | refine xst ?_ | refine xar ?_ | refine xop ?_ | refine xlen ?_ | refine xld rfl ?_ | refine xsto rfl ?_ | refine xno ?_ | refine xt ?_ | refine xf ?_ | refine xnu ?_)
      refine xbb 33 (fun hnull => ?_) (fun hnull => ?_)
      · repeat (first | refine xst ?_ | refine xar ?_ | refine xop ?_ | refine xlen ?_ | refine xld rfl ?_ | refine xsto rfl ?_ | refine xno ?_ | refine xt ?_ | refine xf ?_ | refine xnu ?_)
        refine xbb 36 (fun hvan => ?_) (fun hvan => ?_)
        · rw [hnull, hvan, Bool.true_and, Bool.true_or, if_pos rfl] at hv
          repeat (first | refine xst ?_ | refine xar ?_ | refine xop ?_ | refine xlen ?_ | refine xld rfl ?_ | refine xsto rfl ?_ | refine xno ?_ | refine xt ?_ | refine xf ?_ | refine xnu ?_)
          refine xret [] ⟨?_, rfl⟩
          rw [hv]; rfl
        · repeat (first | refine xst ?_ | refine xar ?_ | refine xop ?_ | refine xlen ?_ | refine xld rfl ?_ | refine xsto rfl ?_ | refine xno ?_ | refine xt ?_ | refine xf ?_ | refine xnu ?_)
          refine xcall (meets_spec seen (startF F body) hseen) ?_
          rintro v H ⟨rfl, rfl⟩
          refine G.app ?_
          repeat (first | refine xst ?_ | refine xar ?_ | refine xop ?_ | refine xlen ?_ | refine xld rfl ?_ | refine xsto rfl ?_ | refine xno ?_ | refine xt ?_ | refine xf ?_ | refine xnu ?_)
          refine xd (q := seen &&& startF F body ≠ 0) (fun hm => ?_) (fun hm => ?_)
          · rw [decide_eq_true hm, Bool.or_true, if_pos rfl] at hv
            repeat (first | refine xst ?_ | refine xar ?_ | refine xop ?_ | refine xlen ?_ | refine xld rfl ?_ | refine xsto rfl ?_ | refine xno ?_ | refine xt ?_ | refine xf ?_ | refine xnu ?_)
            refine xret [] ⟨?_, rfl⟩
            rw [hv]; rfl
          · repeat (first | refine xst ?_ | refine xar ?_ | refine xop ?_ | refine xlen ?_ | refine xld rfl ?_ | refine xsto rfl ?_ | refine xno ?_ | refine xt ?_ | refine xf ?_ | refine xnu ?_)
            exact G.fin () (by rw [hvan, decide_eq_false hm]; simp) ⟨rfl, rfl, rfl, rfl, rfl, rfl, rfl, rfl, rfl, rfl, trivial⟩ (Ent.refl _)
      · repeat (first | refine xst ?_ | refine xar ?_ | refine xop ?_ | refine xlen ?_ | refine xld rfl ?_ | refine xsto rfl ?_ | refine xno ?_ | refine xt ?_ | refine xf ?_ | refine xnu ?_)
        refine xcall (meets_spec seen (startF F body) hseen) ?_
        rintro v H ⟨rfl, rfl⟩
        refine G.app ?_
        repeat (first | refine xst ?_ | refine xar ?_ | refine xop ?_ | refine xlen ?_ | refine xld rfl ?_ | refine xsto rfl ?_ | refine xno ?_ | refine xt ?_ | refine xf ?_ | refine xnu ?_)
        refine xd (q := seen &&& startF F body ≠ 0) (fun hm => ?_) (fun hm => ?_)
        · rw [decide_eq_true hm, Bool.or_true, if_pos rfl] at hv
          repeat (first | refine xst ?_ | refine xar ?_ | refine xop ?_ | refine xlen ?_ | refine xld rfl ?_ | refine xsto rfl ?_ | refine xno ?_ | refine xt ?_ | refine xf ?_ | refine xnu ?_)
          refine xret [] ⟨?_, rfl⟩
          rw [hv]; rfl
        · repeat (first | refine xst ?_ | refine xar ?_ | refine xop ?_ | refine xlen ?_ | refine xld rfl ?_ | refine xsto rfl ?_ | refine xno ?_ | refine xt ?_ | refine xf ?_ | refine xnu ?_)
          exact G.fin () (by rw [hnull, decide_eq_false hm]; simp) ⟨rfl, rfl, rfl, rfl, rfl, rfl, rfl, rfl, rfl, rfl, trivial⟩ (Ent.refl _)
    rintro _ hc
    have hc : ((null && vanF F body) || decide (seen &&& startF F body ≠ 0)) = false := hc
    rw [hc, if_neg (by simp)] at hv
    show G C _ [(0, .pointer (some ⟨fb, 0, none⟩)), (2, .int .i64 (name : Int)), (4, .pointer (some ⟨gb, 0, none⟩)), (7, .pointer (some ⟨sb, 0, none⟩)), (8, .bool null), (14, .slice (some ⟨fbb, fbo, none⟩) g.fs.length g.cap), (15, .int .i64 (g.fs.length : Int)), (16, .int .i64 (i : Int)), (11, .pointer (some ⟨b11, 0, none⟩)), (12, .bool (vanF F body))] [pts b11 (setV (startF F body)), pts sb (setV seen), pts gb g.v]
    have hs2 : seen ||| startF F body < 2 ^ 256 := Nat.or_lt_two_pow hseen (startF_lt hF _)
    repeat (first | refine xst ?_ | refine xar ?_ | refine xop ?_ | refine xlen ?_ | refine xld rfl ?_ | refine xsto rfl ?_ | refine xno ?_ | refine xt ?_ | refine xf ?_ | refine xnu ?_)
    refine xcall (sor_spec seen (startF F body)) ?_
    rintro v H ⟨rfl, rfl⟩
    refine G.app ?_
    refine xsto rfl ?_
    refine xrep 1 (setV (seen ||| startF F body)) rfl rfl ?_
    repeat (first | refine xst ?_ | refine xar ?_ | refine xop ?_ | refine xlen ?_ | refine xld rfl ?_ | refine xsto rfl ?_ | refine xno ?_ | refine xt ?_ | refine xf ?_ | refine xnu ?_)
    refine xbb 45 (fun hnull => ?_) (fun hnull => ?_)
    · repeat (first | refine xst ?_ | refine xar ?_ | refine xop ?_ | refine xlen ?_ | refine xld rfl ?_ | refine xsto rfl ?_ | refine xno ?_ | refine xt ?_ | refine xf ?_ | refine xnu ?_)
      rw [← hfa]
      exact G.fin (i + 1, seen ||| startF F body, true) ⟨⟨by show i + 1 ≤ _; omega, hs2, by rw [hv, hnull, Bool.true_or]⟩, by show g.fs.length - (i + 1) < g.fs.length - i; omega⟩ ⟨rfl, rfl, rfl, rfl, rfl, rfl, rfl, rfl, trivial⟩ (by show Ent _ [pts sb (setV (seen ||| startF F body)), pts gb g.v]; exact ent_pick)
    · repeat (first | refine xst ?_ | refine xar ?_ | refine xop ?_ | refine xlen ?_ | refine xld rfl ?_ | refine xsto rfl ?_ | refine xno ?_ | refine xt ?_ | refine xf ?_ | refine xnu ?_)
      rw [← hfa]
      exact G.fin (i + 1, seen ||| startF F body, vanF F body) ⟨⟨by show i + 1 ≤ _; omega, hs2, by rw [hv, hnull, Bool.false_or]⟩, by show g.fs.length - (i + 1) < g.fs.length - i; omega⟩ ⟨rfl, rfl, rfl, rfl, rfl, rfl, rfl, rfl, trivial⟩ (by show Ent _ [pts sb (setV (seen ||| startF F body)), pts gb g.v]; exact ent_pick)
  · rw [List.drop_eq_nil_of_le (by omega)] at hv
    have hv : clF F g.fs name = (null && decide (seen &&& F.fo name ≠ 0)) := hv
    repeat (first | refine xst ?_ | refine xar ?_ | refine xop ?_ | refine xlen ?_ | refine xld rfl ?_ | refine xsto rfl ?_ | refine xno ?_ | refine xt ?_ | refine xf ?_ | refine xnu ?_)
    cases null with
    | true =>
      refine xdraw ?_
      refine xdop 0 ?_
      refine xdop 1 ?_
      (first | refine xdno 2 ?_ | refine xdld 2 rfl rfl ?_ | refine xdnu 2 ?_)
      (first | refine xdno 3 ?_ | refine xdop 3 ?_ | refine xdnu 3 ?_)
      (first | refine xdno 4 ?_ | refine xdop 4 ?_ | refine xdnu 4 ?_)
      (first | refine xdno 5 ?_ | refine xdop 5 ?_ | refine xdnu 5 ?_)
      (first | refine xdno 6 ?_ | refine xdop 6 ?_ | refine xdnu 6 ?_)
      refine xdix 7 ?_ (hk := hn)
      refine xdld 8 rfl rfl ?_ (hv := Fx.fo_part hF hn rfl rfl)
      refine xdact 9 ?_
      refine xcall (meets_spec seen (F.fo name) hseen) ?_
      rintro v H ⟨rfl, rfl⟩
      refine G.app ?_
      refine xst ?_
      refine xdop 10 ?_
      refine xdop 11 ?_
      refine xdend ?_
      repeat (first | refine xst ?_ | refine xar ?_ | refine xop ?_ | refine xlen ?_ | refine xld rfl ?_ | refine xsto rfl ?_ | refine xno ?_ | refine xt ?_ | refine xf ?_ | refine xnu ?_)
      refine xret [] ⟨?_, rfl⟩
      rw [hv]; rfl
    | false =>
      refine xdraw ?_
      refine xdop 0 ?_
      refine xdop 1 ?_
      (first | refine xdno 2 ?_ | refine xdld 2 rfl rfl ?_ | refine xdnu 2 ?_)
      (first | refine xdno 3 ?_ | refine xdop 3 ?_ | refine xdnu 3 ?_)
      (first | refine xdno 4 ?_ | refine xdop 4 ?_ | refine xdnu 4 ?_)
      (first | refine xdno 5 ?_ | refine xdop 5 ?_ | refine xdnu 5 ?_)
      (first | refine xdno 6 ?_ | refine xdop 6 ?_ | refine xdnu 6 ?_)
      (first | refine xdno 7 ?_ | refine xdix 7 ?_ (hk := by first | omega | exact Nat.le_of_ble_eq_true rfl) | refine xdnu 7 ?_)
      (first | refine xdno 8 ?_ | refine xdld 8 rfl rfl ?_ | refine xdnu 8 ?_)
      refine xdact 9 ?_
      refine xno ?_
      refine xst ?_
      refine xdop 10 ?_
      refine xdop 11 ?_
      refine xdend ?_
      repeat (first | refine xst ?_ | refine xar ?_ | refine xop ?_ | refine xlen ?_ | refine xld rfl ?_ | refine xsto rfl ?_ | refine xno ?_ | refine xt ?_ | refine xf ?_ | refine xnu ?_)
      refine xret [] ⟨?_, rfl⟩
      rw [hv]; rfl
end Go.Proofs.YthlaacnjgdmakaaDoor

/- gram: fit, Check, known, Vanishes, First. -/
namespace Go.Proofs.YthlaacnjgdmakaaDoor
open Go.W

/-- What fit finds at fault behind the shape. -/
def fitL (F : Fx) (fs : List Fm) (names : Nat) : List (Int × Int) :=
  match (List.range names).find? (fun k => !F.tx k) with
  | some i => newF 90 i
  | none => match (List.range names).find? (fun k => clF F fs k) with
    | some i => newF 91 i
    | none => []
def FitR (g : Gr) (F : Fx) (l : List (Int × Int)) : Prop :=
  (shapeF g ≠ [] ∧ F = Fx.zero ∧ l = shapeF g) ∨ (shapeF g = [] ∧ ∃ S, Study g.fs S ∧ l = fitL S g.fs g.names.toNat ∧ F = if l = [] then S else Fx.zero)
theorem FitR.det {g : Gr} {F F' : Fx} {l l' : List (Int × Int)} (h : FitR g F l) (h' : FitR g F' l') : F = F' ∧ l = l' := by
  rcases h with ⟨h1, h2, h3⟩ | ⟨h1, S, h2, h3, h4⟩
  · rcases h' with ⟨g1, g2, g3⟩ | ⟨g1, _⟩
    · exact ⟨h2.trans g2.symm, h3.trans g3.symm⟩
    · exact absurd g1 h1
  · rcases h' with ⟨g1, _⟩ | ⟨g1, S', g2, g3, g4⟩
    · exact absurd h1 g1
    · have := h2.det g2; subst this
      have e := h3.trans g3.symm
      subst e
      exact ⟨h4.trans g4.symm, rfl⟩

theorem fit_spec (g : Gr) (hlen : g.fs.length ≤ 1000000) (hbl : ∀ f ∈ g.fs, f.body.length ≤ 1000000) : Fun Tryd.prog 32 [.agg g.v.toArray] g.rd [] fun v H => ∃ F l e, F.ok ∧ FitR g F l ∧ oneC e = true ∧ v = .tuple #[.agg F.v.toArray, e] ∧ H = [chain l e] := by
  refine xenter (p := pg) Tryd.call32 Tryd.func32 fun C => ?_
  haveI hrd : ∀ H, RdAll C H g.rd := fun H => ⟨fun r hr => by haveI := RP.of C hr; infer_instance⟩
  have hzl := Fx.v_len Fx.ok_zero
  refine xst ?_
  refine xst ?_
  refine xnew fun gb => ?_
  refine xrep 0 g.v rfl rfl ?_
  refine xnew fun rb => ?_
  refine xrep 0 Fx.zero.v rfl rfl ?_
  repeat (first | refine xst ?_ | refine xar ?_ | refine xop ?_ | refine xlen ?_ | refine xld rfl ?_ | refine xsto rfl ?_ | refine xno ?_ | refine xt ?_ | refine xf ?_ | refine xnu ?_)
  refine xcall (shape_spec g hlen hbl) ?_
  rintro e H rfl
  refine G.app ?_
  cases hsh : shapeF g with
  | cons q r =>
    obtain ⟨c, x⟩ := q
    refine G.fact (chain ((c, x) :: r) e) (P := ∃ b : Nat, e = .iface 128 (.pointer (some ⟨b, 0, none⟩))) (fun w F h => by obtain ⟨b, u, F1, F2, ⟨h1, h2⟩, _⟩ := h; exact ⟨b, h1⟩) fun h => ?_
    obtain ⟨eb, rfl⟩ := h
    repeat (refine xnot 12 ?_; first | refine xst ?_ | refine xar ?_ | refine xop ?_ | refine xlen ?_ | refine xld rfl ?_ | refine xsto rfl ?_ | refine xno ?_ | refine xt ?_ | refine xf ?_ | refine xnu ?_)
    refine xE 12 (.agg Fx.zero.v.toArray) rfl rfl ?_
    refine xop ?_
    refine xsta (cs := Fx.zero.v) rfl hzl (Fx.v_one _) Fx.zero.v (put_all (by rw [hzl])) (by rw [hzl]; omega) ?_
    repeat (first | refine xst ?_ | refine xar ?_ | refine xop ?_ | refine xlen ?_ | refine xld rfl ?_ | refine xsto rfl ?_ | refine xno ?_ | refine xt ?_ | refine xf ?_ | refine xnu ?_)
    refine xretm [0] rfl (.c (.t .nil) rfl rfl (partF_all rfl hzl)) ?_
    exact ⟨Fx.zero, _, _, Fx.ok_zero, .inl ⟨by rw [hsh]; simp, rfl, hsh.symm⟩, rfl, rfl, rfl⟩
  | nil =>
    refine G.fact (chain [] e) (P := e = .nilIface) (fun w F h => h) fun h => ?_
    subst h
    obtain ⟨s1, s2, s3, s4⟩ := shapeF_nil hsh
    have hwf : ∀ f ∈ g.fs, f.wf := fun f hf => (s4 f hf).1
    obtain ⟨n, hn⟩ : ∃ n : Nat, g.names = n := ⟨g.names.toNat, by omega⟩
    have hn16 : n ≤ 16 := by omega
    have hfl : g.names.toNat = n := by omega
    repeat (first | refine xst ?_ | refine xar ?_ | refine xop ?_ | refine xlen ?_ | refine xld rfl ?_ | refine xsto rfl ?_ | refine xno ?_ | refine xt ?_ | refine xf ?_ | refine xnu ?_)
    refine xcall (study_spec g hlen hwf) ?_
    rintro v H ⟨S, hS, hok, rfl, rfl⟩
    refine G.app ?_
    have hvl := Fx.v_len hok
    refine xnew fun fb => ?_
    refine xsta (cs := S.v) rfl hvl (Fx.v_one _) S.v (put_all (by rw [hvl, zlen])) (by rw [hvl, zlen]; omega) ?_
    have hgv : g.v = [.int .i64 (n : Int), .slice g.a g.fs.length g.cap] := by unfold Gr.v; rw [hn]
    refine xrep 3 [.int .i64 (n : Int), .slice g.a g.fs.length g.cap] rfl hgv ?_
    repeat (refine xnot 18 ?_; first | refine xst ?_ | refine xar ?_ | refine xop ?_ | refine xlen ?_ | refine xld rfl ?_ | refine xsto rfl ?_ | refine xno ?_ | refine xt ?_ | refine xf ?_ | refine xnu ?_)
    refine xst ?_
    refine G.cut (σ := Unit) (fun _ => [(1, .pointer (some ⟨gb, 0, none⟩)), (2, .pointer (some ⟨rb, 0, none⟩)), (5, .pointer (some ⟨fb, 0, none⟩))]) (fun _ => [pts fb S.v, pts rb Fx.zero.v, pts gb [.int .i64 (n : Int), .slice g.a g.fs.length g.cap]]) (fun _ => ∀ k, k < n → S.tx k = true) ?_ ?_
    · repeat (first | refine xst ?_ | refine xar ?_ | refine xop ?_ | refine xlen ?_ | refine xld rfl ?_ | refine xsto rfl ?_ | refine xno ?_ | refine xt ?_ | refine xf ?_ | refine xnu ?_)
      refine G.loop (σ := Nat) (fun i => [(1, .pointer (some ⟨gb, 0, none⟩)), (2, .pointer (some ⟨rb, 0, none⟩)), (5, .pointer (some ⟨fb, 0, none⟩)), (17, .int .i64 (n : Int)), (18, .int .i64 (i : Int))]) (fun _ => [pts fb S.v, pts rb Fx.zero.v, pts gb [.int .i64 (n : Int), .slice g.a g.fs.length g.cap]])
        (fun i => i ≤ n ∧ ∀ k, k < i → S.tx k = true) (fun i => n - i) 0 ⟨Nat.zero_le _, fun k h => by omega⟩ ⟨rfl, rfl, rfl, rfl, rfl, trivial⟩ ent_pick ?_
      rintro i ⟨hi, ht⟩
      have hi : i ≤ n := hi
      show G C _ [(1, .pointer (some ⟨gb, 0, none⟩)), (2, .pointer (some ⟨rb, 0, none⟩)), (5, .pointer (some ⟨fb, 0, none⟩)), (17, .int .i64 (n : Int)), (18, .int .i64 (i : Int))] [pts fb S.v, pts rb Fx.zero.v, pts gb [.int .i64 (n : Int), .slice g.a g.fs.length g.cap]]
      repeat (first | refine xst ?_ | refine xar ?_ | refine xop ?_ | refine xlen ?_ | refine xld rfl ?_ | refine xsto rfl ?_ | refine xno ?_ | refine xt ?_ | refine xf ?_ | refine xnu ?_)
      refine xd (q := (i : Int) < (n : Int)) (fun h => ?_) (fun h => ?_)
      · have h : i < n := by omega
        repeat (first | refine xst ?_ | refine xar ?_ | refine xop ?_ | refine xlen ?_ | refine xld rfl ?_ | refine xsto rfl ?_ | refine xno ?_ | refine xt ?_ | refine xf ?_ | refine xnu ?_)
        refine xix ?_ (hk := (by omega : i < 16))
        refine xEp 23 i rfl (by show 0 + 0 + i = i; omega) ?_
        cases hb : S.tx i with
        | true =>
          refine xld rfl ?_ (hv := (Fx.v_tx hok (by omega)).trans (by rw [hb]))
          repeat (first | refine xst ?_ | refine xar ?_ | refine xop ?_ | refine xlen ?_ | refine xld rfl ?_ | refine xsto rfl ?_ | refine xno ?_ | refine xt ?_ | refine xf ?_ | refine xnu ?_)
          exact G.fin (i + 1) ⟨⟨by show i + 1 ≤ n; omega, fun k hk => by
            by_cases e : k = i
            · subst e; exact hb
            · exact ht k (by omega)⟩, by show n - (i + 1) < n - i; omega⟩ ⟨rfl, rfl, rfl, rfl, rfl, trivial⟩ ent_pick
        | false =>
          refine xld rfl ?_ (hv := (Fx.v_tx hok (by omega)).trans (by rw [hb]))
          repeat (first | refine xst ?_ | refine xar ?_ | refine xop ?_ | refine xlen ?_ | refine xld rfl ?_ | refine xsto rfl ?_ | refine xno ?_ | refine xt ?_ | refine xf ?_ | refine xnu ?_)
          refine xE 26 (.agg Fx.zero.v.toArray) rfl rfl ?_
          refine xcall (new_spec 90 i) ?_
          rintro e H rfl
          refine G.app ?_
          refine G.fact (chain (newF 90 i) e) (P := oneC e = true) (fun w F h => chain_one h) fun he => ?_
          refine xsta (cs := Fx.zero.v) rfl hzl (Fx.v_one _) Fx.zero.v (put_all (by rw [hzl])) (by rw [hzl]; omega) ?_
          repeat (first | refine xst ?_ | refine xar ?_ | refine xop ?_ | refine xlen ?_ | refine xld rfl ?_ | refine xsto rfl ?_ | refine xno ?_ | refine xt ?_ | refine xf ?_ | refine xnu ?_)
          refine xretm [0] rfl (.c (.t .nil) rfl rfl (partF_all rfl hzl)) ?_
          have hfit : fitL S g.fs g.names.toNat = newF 90 i := by
            unfold fitL
            have : (List.range g.names.toNat).find? (fun k => !S.tx k) = some i := by
              rw [hfl, List.find?_range_eq_some]
              exact ⟨by rw [hb]; rfl, List.mem_range.2 h, fun j hj => by rw [ht j hj]; rfl⟩
            rw [this]
          exact ⟨Fx.zero, _, e, Fx.ok_zero, .inr ⟨hsh, S, hS, hfit.symm, by rw [if_neg (by simp [newF])]⟩, he, rfl, rfl⟩
      · obtain rfl : i = n := by omega
        repeat (first | refine xst ?_ | refine xar ?_ | refine xop ?_ | refine xlen ?_ | refine xld rfl ?_ | refine xsto rfl ?_ | refine xno ?_ | refine xt ?_ | refine xf ?_ | refine xnu ?_)
        exact G.fin () ht ⟨rfl, rfl, rfl, trivial⟩ ent_pick
    rintro _ ht
    have ht : ∀ k, k < n → S.tx k = true := ht
    have hnone : (List.range g.names.toNat).find? (fun k => !S.tx k) = none := by
      rw [List.find?_eq_none]
      intro k hk
      rw [hfl] at hk
      rw [ht k (List.mem_range.1 hk)]; simp
    show G C _ [(1, .pointer (some ⟨gb, 0, none⟩)), (2, .pointer (some ⟨rb, 0, none⟩)), (5, .pointer (some ⟨fb, 0, none⟩))] [pts fb S.v, pts rb Fx.zero.v, pts gb [.int .i64 (n : Int), .slice g.a g.fs.length g.cap]]
    repeat (refine xnot 32 ?_; first | refine xst ?_ | refine xar ?_ | refine xop ?_ | refine xlen ?_ | refine xld rfl ?_ | refine xsto rfl ?_ | refine xno ?_ | refine xt ?_ | refine xf ?_ | refine xnu ?_)
    refine xst ?_
    refine G.cut (σ := Unit) (fun _ => [(1, .pointer (some ⟨gb, 0, none⟩)), (2, .pointer (some ⟨rb, 0, none⟩)), (5, .pointer (some ⟨fb, 0, none⟩))]) (fun _ => [pts fb S.v, pts rb Fx.zero.v, pts gb [.int .i64 (n : Int), .slice g.a g.fs.length g.cap]]) (fun _ => ∀ k, k < n → clF S g.fs k = false) ?_ ?_
    · repeat (first | refine xst ?_ | refine xar ?_ | refine xop ?_ | refine xlen ?_ | refine xld rfl ?_ | refine xsto rfl ?_ | refine xno ?_ | refine xt ?_ | refine xf ?_ | refine xnu ?_)
      refine G.loop (σ := Nat) (fun i => [(1, .pointer (some ⟨gb, 0, none⟩)), (2, .pointer (some ⟨rb, 0, none⟩)), (5, .pointer (some ⟨fb, 0, none⟩)), (31, .int .i64 (n : Int)), (32, .int .i64 (i : Int))]) (fun _ => [pts fb S.v, pts rb Fx.zero.v, pts gb [.int .i64 (n : Int), .slice g.a g.fs.length g.cap]])
        (fun i => i ≤ n ∧ ∀ k, k < i → clF S g.fs k = false) (fun i => n - i) 0 ⟨Nat.zero_le _, fun k h => by omega⟩ ⟨rfl, rfl, rfl, rfl, rfl, trivial⟩ ent_pick ?_
      rintro i ⟨hi, hc⟩
      have hi : i ≤ n := hi
      show G C _ [(1, .pointer (some ⟨gb, 0, none⟩)), (2, .pointer (some ⟨rb, 0, none⟩)), (5, .pointer (some ⟨fb, 0, none⟩)), (31, .int .i64 (n : Int)), (32, .int .i64 (i : Int))] [pts fb S.v, pts rb Fx.zero.v, pts gb [.int .i64 (n : Int), .slice g.a g.fs.length g.cap]]
      repeat (first | refine xst ?_ | refine xar ?_ | refine xop ?_ | refine xlen ?_ | refine xld rfl ?_ | refine xsto rfl ?_ | refine xno ?_ | refine xt ?_ | refine xf ?_ | refine xnu ?_)
      refine xd (q := (i : Int) < (n : Int)) (fun h => ?_) (fun h => ?_)
      · have h : i < n := by omega
        repeat (first | refine xst ?_ | refine xar ?_ | refine xop ?_ | refine xlen ?_ | refine xld rfl ?_ | refine xsto rfl ?_ | refine xno ?_ | refine xt ?_ | refine xf ?_ | refine xnu ?_)
        refine xE 35 (.agg g.v.toArray) rfl (by rw [hgv]) ?_
        refine xcall (clashes_spec S hok fb g hlen hwf i (by omega)) ?_
        rintro v H ⟨rfl, rfl⟩
        refine G.app ?_
        refine xst ?_
        cases hb : clF S g.fs i with
        | false =>
          repeat (first | refine xst ?_ | refine xar ?_ | refine xop ?_ | refine xlen ?_ | refine xld rfl ?_ | refine xsto rfl ?_ | refine xno ?_ | refine xt ?_ | refine xf ?_ | refine xnu ?_)
          exact G.fin (i + 1) ⟨⟨by show i + 1 ≤ n; omega, fun k hk => by
            by_cases e : k = i
            · subst e; exact hb
            · exact hc k (by omega)⟩, by show n - (i + 1) < n - i; omega⟩ ⟨rfl, rfl, rfl, rfl, rfl, trivial⟩ ent_pick
        | true =>
          repeat (first | refine xst ?_ | refine xar ?_ | refine xop ?_ | refine xlen ?_ | refine xld rfl ?_ | refine xsto rfl ?_ | refine xno ?_ | refine xt ?_ | refine xf ?_ | refine xnu ?_)
          refine xE 38 (.agg Fx.zero.v.toArray) rfl rfl ?_
          refine xcall (new_spec 91 i) ?_
          rintro e H rfl
          refine G.app ?_
          refine G.fact (chain (newF 91 i) e) (P := oneC e = true) (fun w F h => chain_one h) fun he => ?_
          refine xsta (cs := Fx.zero.v) rfl hzl (Fx.v_one _) Fx.zero.v (put_all (by rw [hzl])) (by rw [hzl]; omega) ?_
          repeat (first | refine xst ?_ | refine xar ?_ | refine xop ?_ | refine xlen ?_ | refine xld rfl ?_ | refine xsto rfl ?_ | refine xno ?_ | refine xt ?_ | refine xf ?_ | refine xnu ?_)
          refine xretm [0] rfl (.c (.t .nil) rfl rfl (partF_all rfl hzl)) ?_
          have hfit : fitL S g.fs g.names.toNat = newF 91 i := by
            unfold fitL
            rw [hnone]
            have : (List.range g.names.toNat).find? (fun k => clF S g.fs k) = some i := by
              rw [hfl, List.find?_range_eq_some]
              exact ⟨hb, List.mem_range.2 h, fun j hj => by rw [hc j hj]; rfl⟩
            rw [this]
          exact ⟨Fx.zero, _, e, Fx.ok_zero, .inr ⟨hsh, S, hS, hfit.symm, by rw [if_neg (by simp [newF])]⟩, he, rfl, rfl⟩
      · obtain rfl : i = n := by omega
        repeat (first | refine xst ?_ | refine xar ?_ | refine xop ?_ | refine xlen ?_ | refine xld rfl ?_ | refine xsto rfl ?_ | refine xno ?_ | refine xt ?_ | refine xf ?_ | refine xnu ?_)
        exact G.fin () hc ⟨rfl, rfl, rfl, trivial⟩ ent_pick
    rintro _ hc
    have hc : ∀ k, k < n → clF S g.fs k = false := hc
    have hfit : fitL S g.fs g.names.toNat = [] := by
      unfold fitL
      rw [hnone]
      have : (List.range g.names.toNat).find? (fun k => clF S g.fs k) = none := by
        rw [List.find?_eq_none]
        intro k hk
        rw [hfl] at hk
        rw [hc k (List.mem_range.1 hk)]; simp
      rw [this]
    show G C _ [(1, .pointer (some ⟨gb, 0, none⟩)), (2, .pointer (some ⟨rb, 0, none⟩)), (5, .pointer (some ⟨fb, 0, none⟩))] [pts fb S.v, pts rb Fx.zero.v, pts gb [.int .i64 (n : Int), .slice g.a g.fs.length g.cap]]
    refine xst ?_
    refine xst ?_
    refine xld rfl ?_ (hv := partF_all rfl hvl)
    refine xsta (cs := S.v) rfl hvl (Fx.v_one _) S.v (put_all (by rw [hzl, hvl])) (by rw [hzl, hvl]; omega) ?_
    repeat (first | refine xst ?_ | refine xar ?_ | refine xop ?_ | refine xlen ?_ | refine xld rfl ?_ | refine xsto rfl ?_ | refine xno ?_ | refine xt ?_ | refine xf ?_ | refine xnu ?_)
    refine G.fold (chain [] .nilIface) [] (fun w F _ => chain_nil w F) ?_
    refine xretm [0] rfl (.c (.t .nil) rfl rfl (partF_all rfl hvl)) ?_
    exact ⟨S, [], .nilIface, hok, .inr ⟨hsh, S, hS, hfit.symm, by rw [if_pos rfl]⟩, rfl, rfl, rfl⟩

theorem gcheck_spec (g : Gr) (hlen : g.fs.length ≤ 1000000) (hbl : ∀ f ∈ g.fs, f.body.length ≤ 1000000) : Fun Tryd.prog 36 [.agg g.v.toArray] g.rd [] fun e H => ∃ F l, FitR g F l ∧ oneC e = true ∧ H = [chain l e] := by
  refine xenter (p := pg) Tryd.call36 Tryd.func36 fun C => ?_
  haveI hrd : ∀ H, RdAll C H g.rd := fun H => ⟨fun r hr => by haveI := RP.of C hr; infer_instance⟩
  refine xst ?_
  refine xst ?_
  refine xnew fun gb => ?_
  refine xrep 0 g.v rfl rfl ?_
  repeat (first | refine xst ?_ | refine xar ?_ | refine xop ?_ | refine xlen ?_ | refine xld rfl ?_ | refine xsto rfl ?_ | refine xno ?_ | refine xt ?_ | refine xf ?_ | refine xnu ?_)
  refine xcall (fit_spec g hlen hbl) ?_
  rintro v H ⟨F, l, e, hok, hR, he, rfl, rfl⟩
  refine G.app ?_
  have hvl := Fx.v_len hok
  repeat (first | refine xst ?_ | refine xar ?_ | refine xop ?_ | refine xlen ?_ | refine xld rfl ?_ | refine xsto rfl ?_ | refine xno ?_ | refine xt ?_ | refine xf ?_ | refine xnu ?_)
  refine xnew fun fb => ?_
  refine xsta (cs := F.v) rfl hvl (Fx.v_one _) F.v (put_all (by rw [hvl, zlen])) (by rw [hvl, zlen]; omega) ?_
  repeat (first | refine xst ?_ | refine xar ?_ | refine xop ?_ | refine xlen ?_ | refine xld rfl ?_ | refine xsto rfl ?_ | refine xno ?_ | refine xt ?_ | refine xf ?_ | refine xnu ?_)
  refine xretp [1] ?_
  exact ⟨F, l, hR, he, rfl⟩

/-- Of a grammar that has a good shape, and a name of its own. -/
theorem known_spec (g : Gr) (hlen : g.fs.length ≤ 1000000) (hsh : shapeF g = []) (name : Nat) (hn : (name : Int) < g.names) : Fun Tryd.prog 38 [.agg g.v.toArray, .int .i64 (name : Int)] g.rd [] fun v H => ∃ F, Study g.fs F ∧ F.ok ∧ v = .tuple #[.agg F.v.toArray, .bool true] ∧ H = [] := by
  refine xenter (p := pg) Tryd.call38 Tryd.func38 fun C => ?_
  haveI hrd : ∀ H, RdAll C H g.rd := fun H => ⟨fun r hr => by haveI := RP.of C hr; infer_instance⟩
  obtain ⟨s1, s2, s3, s4⟩ := shapeF_nil hsh
  have hwf : ∀ f ∈ g.fs, f.wf := fun f hf => (s4 f hf).1
  have hzl := Fx.v_len Fx.ok_zero
  refine xst ?_
  refine xst ?_
  refine xnew fun gb => ?_
  refine xrep 0 g.v rfl rfl ?_
  refine xnew fun rb => ?_
  refine xrep 0 Fx.zero.v rfl rfl ?_
  repeat (first | refine xst ?_ | refine xar ?_ | refine xop ?_ | refine xlen ?_ | refine xld rfl ?_ | refine xsto rfl ?_ | refine xno ?_ | refine xt ?_ | refine xf ?_ | refine xnu ?_)
  refine xcall (shape_spec g hlen fun f hf => by have := (s4 f hf).2.2.1; omega) ?_
  rintro e H rfl
  refine G.app ?_
  rw [hsh]
  refine G.fact (chain [] e) (P := e = .nilIface) (fun w F h => h) fun h => ?_
  subst h
  repeat (refine xnot 11 ?_; first | refine xst ?_ | refine xar ?_ | refine xop ?_ | refine xlen ?_ | refine xld rfl ?_ | refine xsto rfl ?_ | refine xno ?_ | refine xt ?_ | refine xf ?_ | refine xnu ?_)
  refine xE 11 (.bool false) rfl (congrArg Value.bool (decide_eq_false (by omega))) ?_
  repeat (refine xnot 17 ?_; first | refine xst ?_ | refine xar ?_ | refine xop ?_ | refine xlen ?_ | refine xld rfl ?_ | refine xsto rfl ?_ | refine xno ?_ | refine xt ?_ | refine xf ?_ | refine xnu ?_)
  refine xE 17 (.bool false) rfl (congrArg Value.bool (decide_eq_false (by omega))) ?_
  repeat (first | refine xst ?_ | refine xar ?_ | refine xop ?_ | refine xlen ?_ | refine xld rfl ?_ | refine xsto rfl ?_ | refine xno ?_ | refine xt ?_ | refine xf ?_ | refine xnu ?_)
  refine xcall (study_spec g hlen hwf) ?_
  rintro v H ⟨S, hS, hok, rfl, rfl⟩
  refine G.app ?_
  have hvl := Fx.v_len hok
  refine xsta (cs := S.v) rfl hvl (Fx.v_one _) S.v (put_all (by rw [hzl, hvl])) (by rw [hzl, hvl]; omega) ?_
  repeat (first | refine xst ?_ | refine xar ?_ | refine xop ?_ | refine xlen ?_ | refine xld rfl ?_ | refine xsto rfl ?_ | refine xno ?_ | refine xt ?_ | refine xf ?_ | refine xnu ?_)
  exact xretm [] rfl (.c (.t .nil) rfl rfl (partF_all rfl hvl)) ⟨S, hS, hok, rfl, rfl⟩

theorem vanishesN_spec (g : Gr) (hlen : g.fs.length ≤ 1000000) (hsh : shapeF g = []) (name : Nat) (hn : (name : Int) < g.names) : Fun Tryd.prog 13 [.agg g.v.toArray, .int .i64 (name : Int)] g.rd [] fun v H => ∃ F, Study g.fs F ∧ v = .bool (F.nl name) ∧ H = [] := by
  refine xenter (p := pg) Tryd.call13 Tryd.func13 fun C => ?_
  haveI hrd : ∀ H, RdAll C H g.rd := fun H => ⟨fun r hr => by haveI := RP.of C hr; infer_instance⟩
  have h16 := (shapeF_nil hsh).2.1
  refine xst ?_
  refine xst ?_
  refine xnew fun gb => ?_
  refine xrep 0 g.v rfl rfl ?_
  repeat (first | refine xst ?_ | refine xar ?_ | refine xop ?_ | refine xlen ?_ | refine xld rfl ?_ | refine xsto rfl ?_ | refine xno ?_ | refine xt ?_ | refine xf ?_ | refine xnu ?_)
  refine xcall (known_spec g hlen hsh name hn) ?_
  rintro v H ⟨S, hS, hok, rfl, rfl⟩
  refine G.app ?_
  have hvl := Fx.v_len hok
  repeat (first | refine xst ?_ | refine xar ?_ | refine xop ?_ | refine xlen ?_ | refine xld rfl ?_ | refine xsto rfl ?_ | refine xno ?_ | refine xt ?_ | refine xf ?_ | refine xnu ?_)
  refine xnew fun fb => ?_
  refine xsta (cs := S.v) rfl hvl (Fx.v_one _) S.v (put_all (by rw [hvl, zlen])) (by rw [hvl, zlen]; omega) ?_
  repeat (first | refine xst ?_ | refine xar ?_ | refine xop ?_ | refine xlen ?_ | refine xld rfl ?_ | refine xsto rfl ?_ | refine xno ?_ | refine xt ?_ | refine xf ?_ | refine xnu ?_)
  refine xix ?_ (hk := (by omega : name < 16))
  refine xld rfl ?_ (hv := Fx.v_nl hok (by omega))
  repeat (first | refine xst ?_ | refine xar ?_ | refine xop ?_ | refine xlen ?_ | refine xld rfl ?_ | refine xsto rfl ?_ | refine xno ?_ | refine xt ?_ | refine xf ?_ | refine xnu ?_)
  refine xretp [] ?_
  exact ⟨S, hS, rfl, rfl⟩
set_option maxRecDepth 20000 in
theorem firstN_spec (g : Gr) (hlen : g.fs.length ≤ 1000000) (hsh : shapeF g = []) (name : Nat) (hn : (name : Int) < g.names) : Fun Tryd.prog 14 [.agg g.v.toArray, .int .i64 (name : Int)] g.rd [] fun v H => ∃ F, Study g.fs F ∧ v = .agg (flagsV (F.fi name)).toArray ∧ H = [] := by
  refine xenter (p := pg) Tryd.call14 Tryd.func14 fun C => ?_
  haveI hrd : ∀ H, RdAll C H g.rd := fun H => ⟨fun r hr => by haveI := RP.of C hr; infer_instance⟩
  have h16 := (shapeF_nil hsh).2.1
  refine xst ?_
  refine xst ?_
  refine xnew fun gb => ?_
  refine xrep 0 g.v rfl rfl ?_
  refine xnew fun rb => ?_
  refine xrep 0 (List.replicate 256 (.bool false)) rfl rfl ?_
  repeat (first | refine xst ?_ | refine xar ?_ | refine xop ?_ | refine xlen ?_ | refine xld rfl ?_ | refine xsto rfl ?_ | refine xno ?_ | refine xt ?_ | refine xf ?_ | refine xnu ?_)
  refine xcall (known_spec g hlen hsh name hn) ?_
  rintro v H ⟨S, hS, hok, rfl, rfl⟩
  refine G.app ?_
  have hvl := Fx.v_len hok
  repeat (first | refine xst ?_ | refine xar ?_ | refine xop ?_ | refine xlen ?_ | refine xld rfl ?_ | refine xsto rfl ?_ | refine xno ?_ | refine xt ?_ | refine xf ?_ | refine xnu ?_)
  refine xnew fun fb => ?_
  refine xsta (cs := S.v) rfl hvl (Fx.v_one _) S.v (put_all (by rw [hvl, zlen])) (by rw [hvl, zlen]; omega) ?_
  repeat (first | refine xst ?_ | refine xar ?_ | refine xop ?_ | refine xlen ?_ | refine xld rfl ?_ | refine xsto rfl ?_ | refine xno ?_ | refine xt ?_ | refine xf ?_ | refine xnu ?_)
  refine xix ?_ (hk := (by omega : name < 16))
  refine xld rfl ?_ (hv := Fx.fi_part hok (by omega) rfl rfl)
  refine xcall (flags_spec (S.fi name)) ?_
  rintro v H ⟨rfl, rfl⟩
  refine G.app ?_
  obtain ⟨l, hl⟩ : ∃ l, flagsV (S.fi name) = l := ⟨_, rfl⟩
  have hln : l.length = 256 := by rw [← hl]; exact bitsV_len _ _
  have hone : ∀ v ∈ l, v.oneCell' = true := by rw [← hl]; exact flagsV_one _
  rw [hl]
  refine xsta (cs := l) rfl hln hone l (put_all (by rw [hln]; rfl)) (by rw [hln]; exact Nat.le_of_ble_eq_true rfl) ?_
  repeat (first | refine xst ?_ | refine xar ?_ | refine xop ?_ | refine xlen ?_ | refine xld rfl ?_ | refine xsto rfl ?_ | refine xno ?_ | refine xt ?_ | refine xf ?_ | refine xnu ?_)
  exact xretm [] rfl (.c .nil rfl rfl (partF_all rfl hln)) ⟨S, hS, by rw [hl]; rfl, rfl⟩
end Go.Proofs.YthlaacnjgdmakaaDoor
