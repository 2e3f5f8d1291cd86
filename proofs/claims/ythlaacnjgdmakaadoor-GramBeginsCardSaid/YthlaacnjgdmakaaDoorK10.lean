/- Part of the proof: LGp, LGj, LGk -/
import Derived.Test.YthlaacnjgdmakaaDoorK9
/- gram: a fit grammar's facts; Match ends; the plain law. -/
namespace Go.Proofs.YthlaacnjgdmakaaDoor
open Go.W

/-! ## What the phases of study keep -/
theorem pass_inv {step : Fx → Fm → Fx} {I : Fx → Prop} : ∀ {fs : List Fm} {F : Fx}, (∀ F, I F → ∀ f ∈ fs, I (step F f)) → I F → I (pass step fs F)
  | [], _, _, h => h
  | f :: fs, F, hs, h => pass_inv (fs := fs) (F := step F f) (fun F hF f' hf' => hs F hF f' (List.mem_cons_of_mem _ hf')) (hs F h f List.mem_cons_self)
theorem itF_inv {p : Fx → Fx} {I : Fx → Prop} (hp : ∀ F, I F → I (p F)) {F : Fx} (h : I F) : ∀ k, I (itF p k F)
  | 0 => h
  | k + 1 => hp _ (itF_inv hp h k)
theorem Grown.inv {step : Fx → Fm → Fx} {fs : List Fm} {F0 F : Fx} {I : Fx → Prop} (h : Grown step fs F0 F) (hs : ∀ F, I F → ∀ f ∈ fs, I (step F f)) (h0 : I F0) : I F := by
  obtain ⟨_, k, rfl⟩ := h
  exact itF_inv (fun F hF => pass_inv hs hF) h0 k
theorem Grown.steps {step : Fx → Fm → Fx} {fs : List Fm} {F0 F : Fx} {μ : Fx → Nat} (hg : Grows step μ) (h : Grown step fs F0 F) (hF : F.ok) : ∀ f ∈ fs, step F f = F :=
  ((hg.pass fs F hF).2.2 (by rw [h.1])).2
theorem stepC1_keep (n : Nat) : ∀ (l : List Sg) (F : Fx), (stepC1 n F l).text = F.text ∧ (stepC1 n F l).null = F.null ∧ (stepC1 n F l).first = F.first
  | [], F => ⟨rfl, rfl, rfl⟩
  | s :: r, F => by
    rw [stepC1_cons]
    split
    · exact stepC1_keep n r F
    · split
      · exact stepC1_keep n r _
      · exact stepC1_keep n r _
theorem startF_congr {F G : Fx} (h1 : F.null = G.null) (h2 : F.first = G.first) : ∀ body, startF F body = startF G body
  | [] => rfl
  | s :: r => by
    rw [startF_cons, startF_cons, startF_congr h1 h2 r]
    unfold Fx.fi Fx.nl
    rw [h1, h2]
theorem vanF_congr {F G : Fx} (h1 : F.null = G.null) : ∀ body, vanF F body = vanF G body
  | [] => rfl
  | s :: r => by
    rw [vanF_cons, vanF_cons, vanF_congr h1 r]
    unfold Fx.nl
    rw [h1]

theorem fi_setFi {F : Fx} (h : F.ok) {k : Nat} (hk : k < 16) (x n : Nat) : (F.setFi k x).fi n = if n = k then x else F.fi n := by
  unfold Fx.fi Fx.setFi
  simp only [List.getD_eq_getElem?_getD, List.getElem?_set]
  by_cases e : k = n
  · subst e; simp [h.first, hk]
  · rw [if_neg e, if_neg (fun h => e h.symm)]
theorem nl_setNl {F : Fx} (h : F.ok) {k : Nat} (hk : k < 16) (b : Bool) (n : Nat) : (F.setNl k b).nl n = if n = k then b else F.nl n := by
  unfold Fx.nl Fx.setNl
  simp only [List.getD_eq_getElem?_getD, List.getElem?_set]
  by_cases e : k = n
  · subst e; simp [h.null, hk]
  · rw [if_neg e, if_neg (fun h => e h.symm)]
theorem fo_setFo {F : Fx} (h : F.ok) {k : Nat} (hk : k < 16) (x n : Nat) : (F.setFo k x).fo n = if n = k then x else F.fo n := by
  unfold Fx.fo Fx.setFo
  simp only [List.getD_eq_getElem?_getD, List.getElem?_set]
  by_cases e : k = n
  · subst e; simp [h.follow, hk]
  · rw [if_neg e, if_neg (fun h => e h.symm)]

/-! ## A byte that a body, or a name, can begin with -/
def Sp (nl : Nat → Bool) (P : Nat → Prop) (c : Nat) : List Sg → Prop
  | [] => False
  | s :: r => if s.name < 0 then s.lo.toNat ≤ c ∧ c ≤ s.hi.toNat else P s.name.toNat ∨ (nl s.name.toNat = true ∧ Sp nl P c r)
def Dr (nl : Nat → Bool) (fs : List Fm) (c : Nat) : Nat → Nat → Prop
  | 0, _ => False
  | k + 1, n => ∃ f ∈ fs, f.name = (n : Int) ∧ Sp nl (Dr nl fs c k) c f.body
theorem Sp.mono {nl : Nat → Bool} {P Q : Nat → Prop} {c : Nat} (h : ∀ n, P n → Q n) : ∀ {l : List Sg}, Sp nl P c l → Sp nl Q c l
  | [], h' => h'
  | s :: r, h' => by
    unfold Sp at h' ⊢
    split at h' <;> rename_i hn
    · rw [if_pos hn]; exact h'
    · rw [if_neg hn]
      rcases h' with h' | ⟨h1, h2⟩
      · exact .inl (h _ h')
      · exact .inr ⟨h1, Sp.mono h h2⟩
theorem Sp.ex {nl : Nat → Bool} {P : Nat → Nat → Prop} {c : Nat} : ∀ {l : List Sg}, Sp nl (fun n => ∃ k, P k n) c l → ∃ k, Sp nl (P k) c l
  | [], h' => h'.elim
  | s :: r, h' => by
    unfold Sp at h'
    split at h' <;> rename_i hn
    · exact ⟨0, by unfold Sp; rw [if_pos hn]; exact h'⟩
    · rcases h' with ⟨k, h'⟩ | ⟨h1, h2⟩
      · exact ⟨k, by unfold Sp; rw [if_neg hn]; exact .inl h'⟩
      · obtain ⟨k, h2⟩ := Sp.ex h2
        exact ⟨k, by unfold Sp; rw [if_neg hn]; exact .inr ⟨h1, h2⟩⟩
theorem start_sp (F : Fx) (c : Nat) : ∀ body, (startF F body).testBit c = true ↔ Sp F.nl (fun n => (F.fi n).testBit c = true) c body
  | [] => by simp [startF, Sp]
  | s :: r => by
    rw [startF_cons]
    unfold Sp
    split
    · rw [span_bit, decide_eq_true_eq]
    · rw [Nat.testBit_or, Bool.or_eq_true]
      refine or_congr_right ?_
      cases hn : F.nl s.name.toNat with
      | true => rw [if_pos rfl, start_sp F c r]; simp
      | false => rw [if_neg (by simp)]; simp

/-- A grammar that is fit. -/
structure Fit (names : Nat) (fs : List Fm) (F : Fx) : Prop where
  n16 : names ≤ 16
  forms : ∀ f ∈ fs, 0 ≤ f.name ∧ f.name < (names : Int) ∧ ∀ s ∈ f.body, s.name < (names : Int)
  study : Study fs F
  clash : ∀ n, n < names → clF F fs n = false

section
variable {names : Nat} {fs : List Fm} {F : Fx}
theorem Study.oks (h : Study fs F) : ∃ F1 F2, Grown stepA fs Fx.zero F1 ∧ Grown stepB fs F1 F2 ∧ Grown stepC fs F2 F ∧ F1.ok ∧ F2.ok ∧ F.ok := by
  obtain ⟨F1, F2, h1, h2, h3⟩ := h
  have o1 : F1.ok := h1.inv (I := Fx.ok) (fun F hF f _ => stepA_ok hF f) Fx.ok_zero
  have o2 : F2.ok := h2.inv (I := Fx.ok) (fun F hF f _ => stepB_ok hF f) o1
  exact ⟨F1, F2, h1, h2, h3, o1, o2, h3.inv (I := Fx.ok) (fun F hF f _ => stepC_ok hF f) o2⟩
theorem keepC {F0 F : Fx} (h : Grown stepC fs F0 F) : F.text = F0.text ∧ F.null = F0.null ∧ F.first = F0.first :=
  h.inv (I := fun F => F.text = F0.text ∧ F.null = F0.null ∧ F.first = F0.first) (fun F hF f _ => by
    obtain ⟨a, b, c⟩ := stepC1_keep f.name.toNat f.body F
    exact ⟨a.trans hF.1, b.trans hF.2.1, c.trans hF.2.2⟩) ⟨rfl, rfl, rfl⟩
theorem keepB {F0 F : Fx} (h : Grown stepB fs F0 F) : F.text = F0.text ∧ F.null = F0.null :=
  h.inv (I := fun F => F.text = F0.text ∧ F.null = F0.null) (fun F hF f _ => hF) ⟨rfl, rfl⟩
theorem keepA {F0 F : Fx} (h : Grown stepA fs F0 F) : F.first = F0.first :=
  h.inv (I := fun F => F.first = F0.first) (fun F hF f _ => hF) rfl

theorem Fit.ok (h : Fit names fs F) : F.ok := by obtain ⟨_, _, _, _, _, _, _, o⟩ := h.study.oks; exact o
theorem Fit.name (h : Fit names fs F) {f : Fm} (hf : f ∈ fs) : ∃ n : Nat, f.name = (n : Int) ∧ f.name.toNat = n ∧ n < names ∧ n < 16 := by
  obtain ⟨h1, h2, _⟩ := h.forms f hf
  have := h.n16
  exact ⟨f.name.toNat, by omega, rfl, by omega, by omega⟩
/-- First sets hold what forms begin with. -/
theorem Fit.fixB (h : Fit names fs F) : ∀ f ∈ fs, ∀ c, (startF F f.body).testBit c = true → (F.fi f.name.toNat).testBit c = true := by
  obtain ⟨F1, F2, _, h2, h3, _, o2, _⟩ := h.study.oks
  obtain ⟨_, k2, k3⟩ := keepC h3
  intro f hf c hc
  have hs := h2.steps growsB o2 f hf
  obtain ⟨n, hn, hn', _, h16⟩ := h.name hf
  have e : (stepB F2 f).fi n = F2.fi n := by rw [hs]
  unfold stepB at e
  rw [hn', fi_setFi o2 h16, if_pos rfl] at e
  rw [hn', show F.fi n = F2.fi n by unfold Fx.fi; rw [k3], ← e, Nat.testBit_or, startF_congr k2.symm k3.symm, hc, Bool.or_true]
/-- What a first set holds, comes from forms. -/
theorem Fit.deep (h : Fit names fs F) {n c : Nat} (hn : (F.fi n).testBit c = true) : ∃ k, Dr F.nl fs c k n := by
  obtain ⟨F1, F2, h1, h2, h3, o1, o2, _⟩ := h.study.oks
  obtain ⟨_, k2, k3⟩ := keepC h3
  obtain ⟨_, k2'⟩ := keepB h2
  have hz : ∀ n, F1.fi n = 0 := fun n => by
    unfold Fx.fi; rw [keepA h1]
    simp only [Fx.zero, List.getD_eq_getElem?_getD, List.getElem?_replicate]
    split <;> rfl
  have key := h2.inv (I := fun G => G.ok ∧ G.null = F.null ∧ ∀ n, (G.fi n).testBit c = true → ∃ k, Dr F.nl fs c k n) (fun G ⟨g0, g1, g2⟩ f hf => by
    refine ⟨stepB_ok g0 f, g1, fun n hn => ?_⟩
    obtain ⟨m, hm, hm', _, h16⟩ := h.name hf
    unfold stepB at hn
    rw [hm', fi_setFi g0 h16] at hn
    split at hn
    · rename_i e; subst e
      rw [Nat.testBit_or, Bool.or_eq_true] at hn
      rcases hn with hn | hn
      · exact g2 _ hn
      · have hsp := (start_sp G c f.body).1 hn
        have hnl : G.nl = F.nl := by funext x; unfold Fx.nl; rw [g1]
        rw [hnl] at hsp
        obtain ⟨k, hk⟩ := Sp.ex (hsp.mono g2)
        exact ⟨k + 1, f, hf, hm, hk⟩
    · exact g2 _ hn) ⟨o1, k2'.symm.trans k2.symm, fun n hn => by rw [hz] at hn; simp at hn⟩
  exact key.2.2 n (by rw [← hn]; unfold Fx.fi; rw [k3])
theorem Fit.dr (h : Fit names fs F) {c : Nat} : ∀ {k n : Nat}, Dr F.nl fs c k n → (F.fi n).testBit c = true
  | 0, _, hd => hd.elim
  | k + 1, n, ⟨f, hf, hn, hs⟩ => by
    have := h.fixB f hf c ((start_sp F c f.body).2 (hs.mono fun _ hd => h.dr hd))
    rw [hn, Int.toNat_natCast] at this
    exact this
/-- What follows a name in a form. -/
theorem fixC1 (n c : Nat) : ∀ {l : List Sg} {F : Fx}, F.ok → (∀ s ∈ l, s.name < 16) → stepC1 n F l = F → ∀ {p : List Sg} {s : Sg} {r : List Sg}, l = p ++ s :: r → 0 ≤ s.name → (startF F r).testBit c = true → (F.fo s.name.toNat).testBit c = true
  | [], _, _, _, _, p, s, r, he, _, _ => by simp at he
  | t :: l, F, hF, hb, hs, p, s, r, he, h0, hc => by
    rw [stepC1_cons] at hs
    split at hs
    · rename_i hn
      cases p with
      | nil => simp at he; obtain ⟨rfl, rfl⟩ := he; omega
      | cons q p => simp at he; exact fixC1 n c hF (fun s h => hb s (List.mem_cons_of_mem _ h)) hs he.2 h0 hc
    · rename_i hn
      have hx : (F.fo t.name.toNat ||| startF F l) < 2 ^ 256 := Nat.or_lt_two_pow (hF.fo_lt _) (startF_lt hF _)
      have h1 := up_setFo F t.name.toNat (startF F l) hx
      have hok := hF.setFo t.name.toNat hx
      generalize hF1 : F.setFo t.name.toNat (F.fo t.name.toNat ||| startF F l) = F1 at h1 hok hs
      have hF2 : ∃ F2, F2.ok ∧ Up F1 F2 ∧ stepC1 n F2 l = F := by
        split at hs
        · have hx : (F1.fo t.name.toNat ||| F1.fo n) < 2 ^ 256 := Nat.or_lt_two_pow (hok.fo_lt _) (hok.fo_lt _)
          exact ⟨_, hok.setFo _ hx, up_setFo F1 _ _ hx, hs⟩
        · exact ⟨_, hok, Up.refl _, hs⟩
      obtain ⟨F2, o2, u2, hs⟩ := hF2
      have u3 := up_stepC1 n l o2
      rw [hs] at u3
      have e1 : F1 = F := h1.2 (by have := h1.1; have := u2.1; have := u3.1; omega)
      have e2 : F2 = F := by
        have := u2.2 (by have := h1.1; have := u2.1; have := u3.1; omega)
        rw [this, e1]
      rw [e2] at hs
      cases p with
      | nil =>
        simp at he; obtain ⟨rfl, rfl⟩ := he
        have h16 := hb t List.mem_cons_self
        have e : F1.fo t.name.toNat = F.fo t.name.toNat := by rw [e1]
        rw [← hF1, fo_setFo hF (by omega), if_pos rfl] at e
        rw [← e, Nat.testBit_or, hc, Bool.or_true]
      | cons q p => simp at he; exact fixC1 n c hF (fun s h => hb s (List.mem_cons_of_mem _ h)) hs he.2 h0 hc
theorem Fit.fixC (h : Fit names fs F) {f : Fm} (hf : f ∈ fs) {p : List Sg} {s : Sg} {r : List Sg} (he : f.body = p ++ s :: r) (h0 : 0 ≤ s.name) {c : Nat} (hc : (startF F r).testBit c = true) : (F.fo s.name.toNat).testBit c = true := by
  obtain ⟨F1, F2, _, _, h3, _, _, o⟩ := h.study.oks
  have := h.n16
  exact fixC1 f.name.toNat c o (fun s hs => by have := (h.forms f hf).2.2 s hs; omega) (h3.steps growsC o f hf) he h0 hc
/-- A nullable name has a form that vanishes. -/
theorem vanF_mono {F G : Fx} (h : ∀ n, F.nl n = true → G.nl n = true) : ∀ {l : List Sg}, vanF F l = true → vanF G l = true
  | [], _ => rfl
  | s :: r, h' => by
    rw [vanF_cons, Bool.and_eq_true, Bool.and_eq_true] at h' ⊢
    exact ⟨⟨h'.1.1, h _ h'.1.2⟩, vanF_mono h h'.2⟩
theorem Fit.van (h : Fit names fs F) {n : Nat} (hn : F.nl n = true) : ∃ f ∈ fs, f.name = (n : Int) ∧ vanF F f.body = true := by
  obtain ⟨F1, F2, h1, h2, h3, o1, o2, _⟩ := h.study.oks
  obtain ⟨_, k2, k3⟩ := keepC h3
  obtain ⟨_, k2'⟩ := keepB h2
  have key := h1.inv (I := fun G => G.ok ∧ ∀ n, G.nl n = true → ∃ f ∈ fs, f.name = (n : Int) ∧ vanF G f.body = true) (fun G ⟨g0, g1⟩ f hf => by
    obtain ⟨m, hm, hm', _, h16⟩ := h.name hf
    have o1 : (G.setTx m (G.tx m || derF G f.body)).ok := g0.setTx _ _
    have hup : ∀ n, G.nl n = true → (stepA G f).nl n = true := fun n hn => by
      unfold stepA
      rw [hm']
      simp only
      rw [nl_setNl o1 h16]
      split
      · rename_i e; subst e
        rw [show (G.setTx n (G.tx n || derF G f.body)).nl n = G.nl n from rfl, hn]; rfl
      · exact hn
    refine ⟨stepA_ok g0 f, fun n hn => ?_⟩
    have hn' := hn
    unfold stepA at hn'
    rw [hm'] at hn'
    simp only at hn'
    rw [nl_setNl o1 h16] at hn'
    split at hn'
    · rename_i e; subst e
      rw [Bool.or_eq_true] at hn'
      rcases hn' with hn' | hn'
      · obtain ⟨f', a, b, d⟩ := g1 _ hn'
        exact ⟨f', a, b, vanF_mono hup d⟩
      · exact ⟨f, hf, hm, vanF_mono hup (by rw [← hn']; exact vanF_congr rfl _)⟩
    · obtain ⟨f', a, b, d⟩ := g1 _ hn'
      exact ⟨f', a, b, vanF_mono hup d⟩) ⟨Fx.ok_zero, fun n hn => by
        unfold Fx.nl Fx.zero at hn
        simp only [List.getD_eq_getElem?_getD, List.getElem?_replicate] at hn
        split at hn <;> simp at hn⟩
  have e : F.null = F1.null := k2.trans k2'
  obtain ⟨f, a, b, d⟩ := key.2 n (by rw [← hn]; unfold Fx.nl; rw [e])
  exact ⟨f, a, b, by rw [← d]; exact vanF_congr e _⟩

/-! ## No clash -/
theorem clGo_seen {n c : Nat} : ∀ {l : List Fm} {seen : Nat} {null : Bool}, clGo F n l seen null = false → ∀ f ∈ l, f.name = (n : Int) → seen.testBit c = true → (startF F f.body).testBit c = true → False
  | [], _, _, _, f, hf, _, _, _ => by cases hf
  | g :: l, seen, null, h, f, hf, hn, hs, hc => by
    unfold clGo at h
    split at h
    · rename_i hg
      rcases List.mem_cons.1 hf with e | hf'
      · subst e; exact hg hn
      · exact clGo_seen h f hf' hn hs hc
    · split at h
      · cases h
      · rename_i h1
        rcases List.mem_cons.1 hf with e | hf'
        · subst e
          refine h1 ?_
          rw [Bool.or_eq_true, decide_eq_true_eq]
          refine .inr fun e => ?_
          have : (seen &&& startF F f.body).testBit c = true := by rw [Nat.testBit_and, hs, hc]; rfl
          rw [e] at this; simp at this
        · exact clGo_seen h f hf' hn (by rw [Nat.testBit_or, hs]; rfl) hc
theorem clGo_one {n c : Nat} : ∀ {l : List Fm} {seen : Nat} {null : Bool}, clGo F n l seen null = false → ∀ f ∈ l, ∀ g ∈ l, f.name = (n : Int) → g.name = (n : Int) → (startF F f.body).testBit c = true → (startF F g.body).testBit c = true → f = g
  | [], _, _, _, f, hf, _, _, _, _, _, _ => by cases hf
  | a :: l, seen, null, h, f, hf, g, hg, fn, gn, fc, gc => by
    unfold clGo at h
    split at h
    · rename_i ha
      rcases List.mem_cons.1 hf with rfl | hf'
      · exact absurd fn ha
      · rcases List.mem_cons.1 hg with rfl | hg'
        · exact absurd gn ha
        · exact clGo_one h f hf' g hg' fn gn fc gc
    · split at h
      · cases h
      · rcases List.mem_cons.1 hf with rfl | hf'
        · rcases List.mem_cons.1 hg with rfl | hg'
          · rfl
          · exact (clGo_seen h g hg' gn (by rw [Nat.testBit_or, fc, Bool.or_true]) gc).elim
        · rcases List.mem_cons.1 hg with rfl | hg'
          · exact (clGo_seen h f hf' fn (by rw [Nat.testBit_or, gc, Bool.or_true]) fc).elim
          · exact clGo_one h f hf' g hg' fn gn fc gc
theorem clGo_fo {n c : Nat} (ho : (F.fo n).testBit c = true) : ∀ {l : List Fm} {seen : Nat} {null : Bool}, clGo F n l seen null = false → (null = true ∨ ∃ f ∈ l, f.name = (n : Int) ∧ vanF F f.body = true) →
    (seen.testBit c = true ∨ ∃ f ∈ l, f.name = (n : Int) ∧ (startF F f.body).testBit c = true) → False
  | [], seen, null, h, h1, h2 => by
    rcases h1 with rfl | ⟨_, h, _⟩
    · rcases h2 with h2 | ⟨_, h, _⟩
      · unfold clGo at h
        simp only [Bool.true_and, decide_eq_false_iff_not, Classical.not_not] at h
        have : (seen &&& F.fo n).testBit c = true := by rw [Nat.testBit_and, h2, ho]; rfl
        rw [h] at this; simp at this
      · cases h
    · cases h
  | a :: l, seen, null, h, h1, h2 => by
    unfold clGo at h
    split at h
    · rename_i ha
      refine clGo_fo ho h (h1.imp_right ?_) (h2.imp_right ?_)
      · rintro ⟨f, hf, fn, fv⟩
        rcases List.mem_cons.1 hf with rfl | hf'
        · exact absurd fn ha
        · exact ⟨f, hf', fn, fv⟩
      · rintro ⟨f, hf, fn, fv⟩
        rcases List.mem_cons.1 hf with rfl | hf'
        · exact absurd fn ha
        · exact ⟨f, hf', fn, fv⟩
    · split at h
      · cases h
      · refine clGo_fo ho h ?_ ?_
        · rcases h1 with h1 | ⟨f, hf, fn, fv⟩
          · left; rw [h1]; rfl
          · rcases List.mem_cons.1 hf with rfl | hf'
            · left; rw [fv, Bool.or_true]
            · exact .inr ⟨f, hf', fn, fv⟩
        · rcases h2 with h2 | ⟨f, hf, fn, fv⟩
          · left; rw [Nat.testBit_or, h2]; rfl
          · rcases List.mem_cons.1 hf with rfl | hf'
            · left; rw [Nat.testBit_or, fv, Bool.or_true]
            · exact .inr ⟨f, hf', fn, fv⟩
theorem Fit.apart (h : Fit names fs F) {n c : Nat} (hn : n < names) (hv : F.nl n = true) (hc : (F.fi n).testBit c = true) (ho : (F.fo n).testBit c = true) : False := by
  obtain ⟨k, hk⟩ := h.deep hc
  cases k with
  | zero => exact hk
  | succ k =>
    obtain ⟨f, hf, fn, hs⟩ := hk
    exact clGo_fo ho (h.clash n hn) (.inr (h.van hv)) (.inr ⟨f, hf, fn, (start_sp F c f.body).2 (hs.mono fun _ hd => h.dr hd)⟩)

/-! ## Match -/
def chF (F : Fx) (name : Nat) (fs : List Fm) : List UInt8 → Option Fm
  | [] => none
  | c :: _ => fs.find? fun f => decide (f.name = (name : Int)) && (startF F f.body).testBit c.toNat
def mGo (F : Fx) (fs : List Fm) (hs : List Int) : Nat → List Sg → List UInt8 → Option Int
  | 0, _, _ => none
  | _ + 1, [], s => some (if s.length = 0 then 1 else 0)
  | k + 1, t :: st, s => if t.name < 0 then (match s with
      | [] => some 0
      | c :: s' => if c.toNat < t.lo.toNat ∨ t.hi.toNat < c.toNat then some 0 else mGo F fs hs k st s')
    else match chF F t.name.toNat fs s with
      | some f => if 32 < f.body.length + st.length then some 2 else mGo F fs hs k (f.body ++ st) s
      | none => if F.nl t.name.toNat = false then some 0 else if (32 : Int) < IntKind.i64.wrap ((st.length : Int) + hs.getD t.name.toNat 0) then some 2 else mGo F fs hs k st s
def Ends (F : Fx) (fs : List Fm) (hs : List Int) (st : List Sg) (s : List UInt8) : Prop := ∃ k r, mGo F fs hs k st s = some r
theorem Ends.byte {hs : List Int} {t : Sg} {st : List Sg} {s : List UInt8} (ht : t.name < 0) (h : ∀ c s', s = c :: s' → Ends F fs hs st s') : Ends F fs hs (t :: st) s := by
  cases s with
  | nil => exact ⟨1, 0, by unfold mGo; rw [if_pos ht]⟩
  | cons c s =>
    by_cases hc : c.toNat < t.lo.toNat ∨ t.hi.toNat < c.toNat
    · exact ⟨1, 0, by unfold mGo; rw [if_pos ht]; simp only; rw [if_pos hc]⟩
    · obtain ⟨k, r, h⟩ := h c s rfl
      exact ⟨k + 1, r, by unfold mGo; rw [if_pos ht]; simp only; rw [if_neg hc, h]⟩
theorem Ends.pop {hs : List Int} {t : Sg} {st : List Sg} {s : List UInt8} (ht : ¬ t.name < 0) (hc : chF F t.name.toNat fs s = none) (h : F.nl t.name.toNat = true → Ends F fs hs st s) : Ends F fs hs (t :: st) s := by
  cases hn : F.nl t.name.toNat with
  | false => exact ⟨1, 0, by unfold mGo; rw [if_neg ht, hc]; simp only; rw [if_pos hn]⟩
  | true =>
    by_cases h2 : (32 : Int) < IntKind.i64.wrap ((st.length : Int) + hs.getD t.name.toNat 0)
    · exact ⟨1, 2, by unfold mGo; rw [if_neg ht, hc]; simp only; rw [if_neg (by rw [hn]; decide), if_pos h2]⟩
    · obtain ⟨k, r, h⟩ := h hn
      exact ⟨k + 1, r, by unfold mGo; rw [if_neg ht, hc]; simp only; rw [if_neg (by rw [hn]; decide), if_neg h2, h]⟩
theorem Ends.push {hs : List Int} {t : Sg} {st : List Sg} {s : List UInt8} (ht : ¬ t.name < 0) {f : Fm} (hc : chF F t.name.toNat fs s = some f) (h : Ends F fs hs (f.body ++ st) s) : Ends F fs hs (t :: st) s := by
  by_cases h2 : 32 < f.body.length + st.length
  · exact ⟨1, 2, by unfold mGo; rw [if_neg ht, hc]; simp only; rw [if_pos h2]⟩
  · obtain ⟨k, r, h⟩ := h
    exact ⟨k + 1, r, by unfold mGo; rw [if_neg ht, hc]; simp only; rw [if_neg h2, h]⟩
theorem chF_some {n : Nat} {s : List UInt8} {f : Fm} (h : chF F n fs s = some f) : ∃ c s', s = c :: s' ∧ f ∈ fs ∧ f.name = (n : Int) ∧ (startF F f.body).testBit c.toNat = true := by
  cases s with
  | nil => cases h
  | cons c s' =>
    have h1 := List.find?_some h
    rw [Bool.and_eq_true, decide_eq_true_eq] at h1
    exact ⟨c, s', rfl, List.mem_of_find?_eq_some h, h1.1, h1.2⟩
theorem Fit.chNone (h : Fit names fs F) {n : Nat} {c : UInt8} {s : List UInt8} (hc : (F.fi n).testBit c.toNat = false) : chF F n fs (c :: s) = none := by
  cases e : chF F n fs (c :: s) with
  | none => rfl
  | some f =>
    obtain ⟨c', s', he, hf, fn, hb⟩ := chF_some e
    obtain ⟨rfl, rfl⟩ := List.cons.inj he
    have := h.fixB f hf _ hb
    rw [fn, Int.toNat_natCast, hc] at this; cases this
/-- The form that is chosen. -/
theorem Fit.chOne (h : Fit names fs F) {n : Nat} (hn : n < names) {c : UInt8} {s : List UInt8} {f : Fm} (hf : f ∈ fs) (fn : f.name = (n : Int)) (hb : (startF F f.body).testBit c.toNat = true) : chF F n fs (c :: s) = some f := by
  cases e : chF F n fs (c :: s) with
  | none =>
    have := List.find?_eq_none.1 e f hf
    rw [fn, hb] at this; simp at this
  | some g =>
    obtain ⟨c', s', he, hg, gn, hb'⟩ := chF_some e
    obtain ⟨rfl, rfl⟩ := List.cons.inj he
    rw [clGo_one (h.clash n hn) g hg f hf gn fn hb' hb]
theorem Fit.endsB (h : Fit names fs F) {hs : List Int} {c : UInt8} {s : List UInt8} (ho : ∀ st : List Sg, (∀ t ∈ st, t.name < (names : Int)) → Ends F fs hs st s) (k : Nat)
    (ih : ∀ n, n < names → Dr F.nl fs c.toNat k n → ∀ t : Sg, t.name = (n : Int) → ∀ st : List Sg, (∀ t ∈ st, t.name < (names : Int)) → Ends F fs hs (t :: st) (c :: s)) {f : Fm} (hf : f ∈ fs) :
    ∀ (b p : List Sg), f.body = p ++ b → Sp F.nl (Dr F.nl fs c.toNat k) c.toNat b → ∀ st : List Sg, (∀ t ∈ st, t.name < (names : Int)) → Ends F fs hs (b ++ st) (c :: s)
  | [], _, _, hs', _, _ => hs'.elim
  | t :: b, p, hp, hsp, st, hst => by
    have hbn : ∀ t' ∈ t :: b, t'.name < (names : Int) := fun t' ht' => (h.forms f hf).2.2 t' (by rw [hp]; exact List.mem_append_right _ ht')
    have hst' : ∀ t' ∈ b ++ st, t'.name < (names : Int) := fun t' ht' => by
      rcases List.mem_append.1 ht' with h' | h'
      · exact hbn t' (List.mem_cons_of_mem _ h')
      · exact hst t' h'
    by_cases ht : t.name < 0
    · exact Ends.byte ht fun c' s' e => by obtain ⟨rfl, rfl⟩ := List.cons.inj e; exact ho _ hst'
    · obtain ⟨n, hn⟩ : ∃ n : Nat, t.name = n := ⟨t.name.toNat, by omega⟩
      have hnn : n < names := by have := hbn t List.mem_cons_self; omega
      unfold Sp at hsp
      rw [if_neg ht, hn, Int.toNat_natCast] at hsp
      rcases hsp with hd | ⟨hv, hsp⟩
      · exact ih n hnn hd t hn _ hst'
      · have hstart := (start_sp F c.toNat b).2 (hsp.mono fun _ hd => h.dr hd)
        have hfo := h.fixC hf hp (by omega) hstart
        rw [hn, Int.toNat_natCast] at hfo
        have hno : (F.fi n).testBit c.toNat = false := by
          cases e : (F.fi n).testBit c.toNat with
          | false => rfl
          | true => exact (h.apart hnn hv e hfo).elim
        refine Ends.pop ht (by rw [hn, Int.toNat_natCast]; exact h.chNone hno) fun _ => ?_
        exact h.endsB ho k ih hf b (p ++ [t]) (by rw [hp]; simp) hsp st hst
theorem Fit.endsA (h : Fit names fs F) {hs : List Int} {c : UInt8} {s : List UInt8} (ho : ∀ st : List Sg, (∀ t ∈ st, t.name < (names : Int)) → Ends F fs hs st s) :
    ∀ k n, n < names → Dr F.nl fs c.toNat k n → ∀ t : Sg, t.name = (n : Int) → ∀ st : List Sg, (∀ t ∈ st, t.name < (names : Int)) → Ends F fs hs (t :: st) (c :: s)
  | 0, _, _, hd, _, _, _, _ => hd.elim
  | k + 1, n, hn, ⟨f, hf, fn, hsp⟩, t, ht, st, hst => by
    have hstart := (start_sp F c.toNat f.body).2 (hsp.mono fun _ hd => h.dr hd)
    refine Ends.push (f := f) (by omega) (by rw [ht, Int.toNat_natCast]; exact h.chOne hn hf fn hstart) ?_
    exact h.endsB ho k (fun n hn hd => h.endsA ho k n hn hd) hf f.body [] rfl hsp st hst
theorem Fit.ends (h : Fit names fs F) (hs : List Int) : ∀ (s : List UInt8) (st : List Sg), (∀ t ∈ st, t.name < (names : Int)) → Ends F fs hs st s
  | [], st, hst => by
    induction st with
    | nil => exact ⟨1, 1, rfl⟩
    | cons t st ih =>
      have ih := ih fun t' h' => hst t' (List.mem_cons_of_mem _ h')
      by_cases ht : t.name < 0
      · exact Ends.byte ht fun c s' e => by cases e
      · exact Ends.pop ht rfl fun _ => ih
  | c :: s, st, hst => by
    have ho := h.ends hs s
    induction st with
    | nil => exact ⟨1, 0, rfl⟩
    | cons t st ih =>
      have hst' : ∀ t' ∈ st, t'.name < (names : Int) := fun t' h' => hst t' (List.mem_cons_of_mem _ h')
      have ih := ih hst'
      by_cases ht : t.name < 0
      · exact Ends.byte ht fun c' s' e => by obtain ⟨rfl, rfl⟩ := List.cons.inj e; exact ho _ hst'
      · obtain ⟨n, hn⟩ : ∃ n : Nat, t.name = n := ⟨t.name.toNat, by omega⟩
        have hnn : n < names := by have := hst t List.mem_cons_self; omega
        cases e : (F.fi n).testBit c.toNat with
        | true =>
          obtain ⟨k, hk⟩ := h.deep e
          exact h.endsA ho k n hnn hk t hn st hst'
        | false => exact Ends.pop ht (by rw [hn, Int.toNat_natCast]; exact h.chNone e) fun _ => ih
theorem mGo_mono {hs : List Int} : ∀ {k j : Nat} {st : List Sg} {s : List UInt8} {r : Int}, k ≤ j → mGo F fs hs k st s = some r → mGo F fs hs j st s = some r
  | 0, _, _, _, _, _, h => by cases h
  | k + 1, 0, _, _, _, hj, _ => by omega
  | k + 1, j + 1, [], _, _, _, h => h
  | k + 1, j + 1, t :: st, s, r, hj, h => by
    unfold mGo at h ⊢
    split at h
    · rename_i ht
      rw [if_pos ht]
      cases s with
      | nil => exact h
      | cons c s =>
        simp only at h ⊢
        split at h
        · rename_i hc; rw [if_pos hc]; exact h
        · rename_i hc; rw [if_neg hc]; exact mGo_mono (by omega) h
    · rename_i ht
      rw [if_neg ht]
      cases hc : chF F t.name.toNat fs s with
      | some f =>
        rw [hc] at h
        simp only at h ⊢
        split at h
        · rename_i h2; rw [if_pos h2]; exact h
        · rename_i h2; rw [if_neg h2]; exact mGo_mono (by omega) h
      | none =>
        rw [hc] at h
        simp only at h ⊢
        split at h
        · rename_i h2; rw [if_pos h2]; exact h
        · rename_i h2
          rw [if_neg h2]
          split at h
          · rename_i h3; rw [if_pos h3]; exact h
          · rename_i h3; rw [if_neg h3]; exact mGo_mono (by omega) h
theorem mGo_det {hs : List Int} {k j : Nat} {st : List Sg} {s : List UInt8} {r r' : Int} (h : mGo F fs hs k st s = some r) (h' : mGo F fs hs j st s = some r') : r = r' := by
  rcases Nat.le_total k j with hj | hj
  · have := mGo_mono hj h; rw [h'] at this; exact (Option.some.inj this).symm
  · have := mGo_mono hj h'; rw [h] at this; exact Option.some.inj this
/-- A text that is matched begins as name 0 does. -/
theorem Fit.begins (h : Fit names fs F) {hs : List Int} {k : Nat} {t : Sg} (ht : t.name = 0) {c : UInt8} {s : List UInt8} (hm : mGo F fs hs k [t] (c :: s) = some 1) : (F.fi 0).testBit c.toNat = true := by
  cases k with
  | zero => cases hm
  | succ k =>
    unfold mGo at hm
    rw [if_neg (by omega), ht] at hm
    cases e : chF F (0 : Int).toNat fs (c :: s) with
    | some f =>
      obtain ⟨c', s', he, hf, fn, hb⟩ := chF_some e
      obtain ⟨rfl, rfl⟩ := List.cons.inj he
      have := h.fixB f hf _ hb
      rw [fn] at this
      exact this
    | none =>
      rw [e] at hm
      simp only at hm
      split at hm
      · cases hm
      · split at hm
        · cases hm
        · cases k with
          | zero => cases hm
          | succ k => cases hm
theorem empties {hs : List Int} {k : Nat} {t : Sg} (ht : t.name = 0) {r : Int} (hm : mGo F fs hs k [t] [] = some r) : r = 2 ∨ (r = 1 ∧ F.nl 0 = true) ∨ (r = 0 ∧ F.nl 0 = false) := by
  cases k with
  | zero => cases hm
  | succ k =>
    unfold mGo at hm
    rw [if_neg (by omega), ht] at hm
    simp only [show ∀ n, chF F n fs [] = none from fun _ => rfl] at hm
    split at hm
    · rename_i h0
      right; right; exact ⟨(Option.some.inj hm).symm, h0⟩
    · rename_i h0
      split at hm
      · left; exact (Option.some.inj hm).symm
      · cases k with
        | zero => cases hm
        | succ k =>
          right; left
          exact ⟨(Option.some.inj hm).symm, by simpa using h0⟩
theorem mGo_range {hs : List Int} : ∀ {k : Nat} {st : List Sg} {s : List UInt8} {r : Int}, mGo F fs hs k st s = some r → r = 0 ∨ r = 1 ∨ r = 2
  | 0, _, _, _, h => by cases h
  | k + 1, [], s, r, h => by
    unfold mGo at h
    have := Option.some.inj h
    split at this <;> omega
  | k + 1, t :: st, s, r, h => by
    unfold mGo at h
    split at h
    · cases s with
      | nil => have := Option.some.inj h; omega
      | cons c s =>
        simp only at h
        split at h
        · have := Option.some.inj h; omega
        · exact mGo_range h
    · cases hc : chF F t.name.toNat fs s with
      | some f =>
        rw [hc] at h
        simp only at h
        split at h
        · have := Option.some.inj h; omega
        · exact mGo_range h
      | none =>
        rw [hc] at h
        simp only at h
        split at h
        · have := Option.some.inj h; omega
        · split at h
          · have := Option.some.inj h; omega
          · exact mGo_range h
end
end Go.Proofs.YthlaacnjgdmakaaDoor

/- gram: heights, choose. -/
namespace Go.Proofs.YthlaacnjgdmakaaDoor
open Go.W

/-! ## Heights -/
def hV (h : List Int) : List Value := h.map (.int .i64)
theorem hV_len (h : List Int) : (hV h).length = h.length := by simp [hV]
theorem hV_one (h : List Int) : ∀ v ∈ hV h, v.oneCell' = true := by
  intro v hv; obtain ⟨x, _, rfl⟩ := List.mem_map.1 hv; rfl
theorem hV_get {h : List Int} {k : Nat} (hk : k < h.length) : (hV h)[k]? = some (.int .i64 (h.getD k 0)) := by
  simp [hV, hk]
theorem hV_set (h : List Int) (k : Nat) (x : Int) : (hV h).set k (.int .i64 x) = hV (h.set k x) := by simp [hV, List.map_set]
def hGo (h : List Int) (len : Int) : Int → List Sg → Int → Int
  | _, [], m => m
  | i, s :: r, m => hGo h len (i + 1) r (maxI m (IntKind.i64.wrap (len - 1 - i + h.getD s.name.toNat 0)))
def hStep (F : Fx) (h : List Int) (f : Fm) : List Int := if vanF F f.body = true then h.set f.name.toNat (hGo h f.body.length 0 f.body f.body.length) else h
def hPass (F : Fx) (fs : List Fm) (h : List Int) : List Int := fs.foldl (hStep F) h
def hIt (F : Fx) (fs : List Fm) : Nat → List Int → List Int
  | 0, h => h
  | k + 1, h => hIt F fs k (hPass F fs h)
def heightsF (F : Fx) (fs : List Fm) (n : Nat) : List Int := hIt F fs n (List.replicate 16 0)
theorem hStep_len (F : Fx) (h : List Int) (f : Fm) : (hStep F h f).length = h.length := by unfold hStep; split <;> simp
theorem hPass_len (F : Fx) : ∀ (fs : List Fm) (h : List Int), (hPass F fs h).length = h.length
  | [], _ => rfl
  | f :: fs, h => by
    have := hPass_len F fs (hStep F h f)
    rw [hStep_len] at this; exact this
theorem hIt_len (F : Fx) (fs : List Fm) : ∀ (k : Nat) (h : List Int), (hIt F fs k h).length = h.length
  | 0, _ => rfl
  | k + 1, h => by unfold hIt; rw [hIt_len F fs k, hPass_len]
theorem heightsF_len (F : Fx) (fs : List Fm) (n : Nat) : (heightsF F fs n).length = 16 := by unfold heightsF; rw [hIt_len]; simp
theorem vanF_names {F : Fx} {l : List Sg} (h : vanF F l = true) : ∀ s ∈ l, 0 ≤ s.name := by
  unfold vanF at h
  rw [List.all_eq_true] at h
  intro s hs
  have := h s hs
  rw [Bool.and_eq_true, decide_eq_true_eq] at this
  exact this.1

theorem heights_spec (F : Fx) (hF : F.ok) (fb : Nat) (g : Gr) (hlen : g.fs.length ≤ 1000000) (hwf : ∀ f ∈ g.fs, f.wf) (n : Nat) (hn : g.names = n) (hn16 : n ≤ 16) :
    Fun Tryd.prog 33 [.agg g.v.toArray, .pointer (some ⟨fb, 0, none⟩)] (rdb fb F.v :: g.rd) [] fun v H => v = .agg (hV (heightsF F g.fs n)).toArray ∧ H = [] := by
  refine xenter (p := pg) Tryd.call33 Tryd.func33 fun C => ?_
  haveI := RP.rdb (RP.of C (X := rdb fb F.v) (by simp))
  have hr : RS C 2 g.a g.fs.length g.cap (fmsV g.fs) := RP.slR (RP.of C (X := slR 2 g.a g.fs.length g.cap (fmsV g.fs)) (by simp [Gr.rd]))
  have hfr : ∀ f ∈ g.fs, RS C 3 f.a f.body.length f.cap (sgsV f.body) := fun f hf => RP.slR (RP.of C (List.mem_cons_of_mem _ (fm_rd g hf)))
  have hfl := fmsV_len g.fs
  refine xst ?_
  refine xst ?_
  refine xnew fun gb => ?_
  refine xrep 0 g.v rfl rfl ?_
  refine xnew fun rb => ?_
  refine xrep 0 (hV (List.replicate 16 0)) rfl rfl ?_
  repeat (first | refine xst ?_ | refine xar ?_ | refine xop ?_ | refine xlen ?_ | refine xld rfl ?_ | refine xsto rfl ?_ | refine xno ?_ | refine xt ?_ | refine xf ?_ | refine xnu ?_)
  refine xnew fun hb => ?_
  refine xrep 0 (hV (List.replicate 16 0)) rfl rfl ?_
  repeat (refine xnot 12 ?_; first | refine xst ?_ | refine xar ?_ | refine xop ?_ | refine xlen ?_ | refine xld rfl ?_ | refine xsto rfl ?_ | refine xno ?_ | refine xt ?_ | refine xf ?_ | refine xnu ?_)
  refine xE 12 (.int .i64 (n : Int)) rfl (by rw [hn]) ?_
  repeat (first | refine xst ?_ | refine xar ?_ | refine xop ?_ | refine xlen ?_ | refine xld rfl ?_ | refine xsto rfl ?_ | refine xno ?_ | refine xt ?_ | refine xf ?_ | refine xnu ?_)
  refine G.loop (σ := Nat × List Int) (fun s => [(1, .pointer (some ⟨fb, 0, none⟩)), (2, .pointer (some ⟨gb, 0, none⟩)), (4, .pointer (some ⟨rb, 0, none⟩)), (5, .pointer (some ⟨hb, 0, none⟩)), (12, .int .i64 (n : Int)), (13, .int .i64 (s.1 : Int))])
    (fun s => [pts hb (hV s.2), pts rb (hV (List.replicate 16 0)), pts gb g.v]) (fun s => s.1 ≤ n ∧ s.2.length = 16 ∧ heightsF F g.fs n = hIt F g.fs (n - s.1) s.2) (fun s => n - s.1) (0, List.replicate 16 0) ⟨Nat.zero_le _, by simp, rfl⟩ ⟨rfl, rfl, rfl, rfl, rfl, rfl, trivial⟩ ent_pick ?_
  rintro ⟨i, h⟩ ⟨hi, hhl, hv⟩
  simp only at hi hhl hv
  show G C _ [(1, .pointer (some ⟨fb, 0, none⟩)), (2, .pointer (some ⟨gb, 0, none⟩)), (4, .pointer (some ⟨rb, 0, none⟩)), (5, .pointer (some ⟨hb, 0, none⟩)), (12, .int .i64 (n : Int)), (13, .int .i64 (i : Int))] [pts hb (hV h), pts rb (hV (List.replicate 16 0)), pts gb g.v]
  repeat (first | refine xst ?_ | refine xar ?_ | refine xop ?_ | refine xlen ?_ | refine xld rfl ?_ | refine xsto rfl ?_ | refine xno ?_ | refine xt ?_ | refine xf ?_ | refine xnu ?_)
  refine xd (q := (i : Int) < (n : Int)) (fun hin => ?_) (fun hin => ?_)
  · have hin : i < n := by omega
    have hv' : heightsF F g.fs n = hIt F g.fs (n - (i + 1)) (hPass F g.fs h) := by rw [hv, show n - i = (n - (i + 1)) + 1 by omega]; rfl
    repeat (first | refine xst ?_ | refine xar ?_ | refine xop ?_ | refine xlen ?_ | refine xld rfl ?_ | refine xsto rfl ?_ | refine xno ?_ | refine xt ?_ | refine xf ?_ | refine xnu ?_)
    refine G.loop (σ := Nat × List Int) (fun s => [(1, .pointer (some ⟨fb, 0, none⟩)), (2, .pointer (some ⟨gb, 0, none⟩)), (4, .pointer (some ⟨rb, 0, none⟩)), (5, .pointer (some ⟨hb, 0, none⟩)), (12, .int .i64 (n : Int)), (13, .int .i64 (i : Int)), (16, .slice g.a g.fs.length g.cap), (17, .int .i64 (g.fs.length : Int)), (18, .int .i64 (s.1 : Int))])
      (fun s => [pts hb (hV s.2), pts rb (hV (List.replicate 16 0)), pts gb g.v]) (fun s => s.1 ≤ g.fs.length ∧ s.2.length = 16 ∧ hPass F g.fs h = hPass F (g.fs.drop s.1) s.2) (fun s => g.fs.length - s.1) (0, h) ⟨Nat.zero_le _, hhl, rfl⟩ ⟨rfl, rfl, rfl, rfl, rfl, rfl, rfl, rfl, rfl, trivial⟩ ent_pick ?_
    rintro ⟨j, h'⟩ ⟨hj, hhl', hp⟩
    simp only at hj hhl' hp
    show G C _ [(1, .pointer (some ⟨fb, 0, none⟩)), (2, .pointer (some ⟨gb, 0, none⟩)), (4, .pointer (some ⟨rb, 0, none⟩)), (5, .pointer (some ⟨hb, 0, none⟩)), (12, .int .i64 (n : Int)), (13, .int .i64 (i : Int)), (16, .slice g.a g.fs.length g.cap), (17, .int .i64 (g.fs.length : Int)), (18, .int .i64 (j : Int))] [pts hb (hV h'), pts rb (hV (List.replicate 16 0)), pts gb g.v]
    repeat (first | refine xst ?_ | refine xar ?_ | refine xop ?_ | refine xlen ?_ | refine xld rfl ?_ | refine xsto rfl ?_ | refine xno ?_ | refine xt ?_ | refine xf ?_ | refine xnu ?_)
    refine xd (q := (j : Int) < (g.fs.length : Int)) (fun hjl => ?_) (fun hjl => ?_)
    · have hjl : j < g.fs.length := by omega
      obtain ⟨fbb, fbo, hfa, hrb⟩ := hr.some (by omega)
      rw [hfa]
      haveI := hrb
      have hel := fmsV_get hjl
      have hd : g.fs.drop j = g.fs[j] :: g.fs.drop (j + 1) := List.drop_eq_getElem_cons hjl
      have hmem : g.fs[j] ∈ g.fs := List.getElem_mem hjl
      rw [hd] at hp
      generalize g.fs[j] = f at hel hd hmem hp
      have hbf := hfr f hmem
      obtain ⟨h0, h16, hb16, hbl⟩ := hwf f hmem
      obtain ⟨nm, fa, fcap, body⟩ := f
      simp only at hbf h0 h16 hb16 hbl
      obtain ⟨m, rfl⟩ : ∃ m : Nat, nm = m := ⟨nm.toNat, by omega⟩
      have hm : m < 16 := by omega
      have hp : hPass F g.fs h = hPass F (g.fs.drop (j + 1)) (if vanF F body = true then h'.set m (hGo h' body.length 0 body body.length) else h') := hp
      repeat (first | refine xst ?_ | refine xar ?_ | refine xop ?_ | refine xlen ?_ | refine xld rfl ?_ | refine xsto rfl ?_ | refine xno ?_ | refine xt ?_ | refine xf ?_ | refine xnu ?_)
      refine xix ?_ (hk := hjl)
      refine xldla rfl (j * 2) (Fm.v ⟨m, fa, fcap, body⟩) rfl hel (by rw [hfl]; show j * 2 + 2 ≤ _; omega) ?_
      repeat (first | refine xst ?_ | refine xar ?_ | refine xop ?_ | refine xlen ?_ | refine xld rfl ?_ | refine xsto rfl ?_ | refine xno ?_ | refine xt ?_ | refine xf ?_ | refine xnu ?_)
      refine xnew fun p7 => ?_
      refine xsto rfl ?_
      refine xrep 0 (Fm.v ⟨m, fa, fcap, body⟩) rfl rfl ?_
      repeat (first | refine xst ?_ | refine xar ?_ | refine xop ?_ | refine xlen ?_ | refine xld rfl ?_ | refine xsto rfl ?_ | refine xno ?_ | refine xt ?_ | refine xf ?_ | refine xnu ?_)
      refine xcall (vanishes_spec F hF fb fa fcap body hb16 hbl) ?_
      rintro v H ⟨rfl, rfl⟩
      refine G.app ?_
      cases hvan : vanF F body with
      | false =>
        rw [hvan, if_neg (by simp)] at hp
        repeat (first | refine xst ?_ | refine xar ?_ | refine xop ?_ | refine xlen ?_ | refine xld rfl ?_ | refine xsto rfl ?_ | refine xno ?_ | refine xt ?_ | refine xf ?_ | refine xnu ?_)
        rw [← hfa]
        exact G.fin (j + 1, h') ⟨⟨by show j + 1 ≤ _; omega, hhl', hp⟩, by show g.fs.length - (j + 1) < g.fs.length - j; omega⟩ ⟨rfl, rfl, rfl, rfl, rfl, rfl, rfl, rfl, rfl, trivial⟩ ent_pick
      | true =>
        rw [hvan, if_pos rfl] at hp
        have hnn := vanF_names hvan
        repeat (refine xnot 33 ?_; first | refine xst ?_ | refine xar ?_ | refine xop ?_ | refine xlen ?_ | refine xld rfl ?_ | refine xsto rfl ?_ | refine xno ?_ | refine xt ?_ | refine xf ?_ | refine xnu ?_)
        refine xst ?_
        refine G.cut (σ := Unit) (fun _ => [(1, .pointer (some ⟨fb, 0, none⟩)), (2, .pointer (some ⟨gb, 0, none⟩)), (4, .pointer (some ⟨rb, 0, none⟩)), (5, .pointer (some ⟨hb, 0, none⟩)), (7, .pointer (some ⟨p7, 0, none⟩)), (8, .int .i64 (hGo h' body.length 0 body body.length)), (12, .int .i64 (n : Int)), (13, .int .i64 (i : Int)), (16, .slice (some ⟨fbb, fbo, none⟩) g.fs.length g.cap), (17, .int .i64 (g.fs.length : Int)), (18, .int .i64 (j : Int))])
          (fun _ => [pts p7 (Fm.v ⟨m, fa, fcap, body⟩), pts hb (hV h'), pts rb (hV (List.replicate 16 0)), pts gb g.v]) (fun _ => True) ?_ ?_
        · repeat (first | refine xst ?_ | refine xar ?_ | refine xop ?_ | refine xlen ?_ | refine xld rfl ?_ | refine xsto rfl ?_ | refine xno ?_ | refine xt ?_ | refine xf ?_ | refine xnu ?_)
          refine G.loop (σ := Nat × Int) (fun s => [(1, .pointer (some ⟨fb, 0, none⟩)), (2, .pointer (some ⟨gb, 0, none⟩)), (4, .pointer (some ⟨rb, 0, none⟩)), (5, .pointer (some ⟨hb, 0, none⟩)), (7, .pointer (some ⟨p7, 0, none⟩)), (8, .int .i64 s.2), (12, .int .i64 (n : Int)), (13, .int .i64 (i : Int)), (16, .slice (some ⟨fbb, fbo, none⟩) g.fs.length g.cap), (17, .int .i64 (g.fs.length : Int)), (18, .int .i64 (j : Int)), (31, .slice fa body.length fcap), (32, .int .i64 (body.length : Int)), (33, .int .i64 (s.1 : Int))])
            (fun _ => [pts p7 (Fm.v ⟨m, fa, fcap, body⟩), pts hb (hV h'), pts rb (hV (List.replicate 16 0)), pts gb g.v]) (fun s => s.1 ≤ body.length ∧ hGo h' body.length 0 body body.length = hGo h' body.length s.1 (body.drop s.1) s.2) (fun s => body.length - s.1) (0, body.length) ⟨Nat.zero_le _, rfl⟩ ⟨rfl, rfl, rfl, rfl, rfl, rfl, rfl, rfl, rfl, rfl, rfl, rfl, rfl, rfl, trivial⟩ (Ent.refl _) ?_
          rintro ⟨q, most⟩ ⟨hq, hgo⟩
          simp only at hq hgo
          show G C _ [(1, .pointer (some ⟨fb, 0, none⟩)), (2, .pointer (some ⟨gb, 0, none⟩)), (4, .pointer (some ⟨rb, 0, none⟩)), (5, .pointer (some ⟨hb, 0, none⟩)), (7, .pointer (some ⟨p7, 0, none⟩)), (8, .int .i64 most), (12, .int .i64 (n : Int)), (13, .int .i64 (i : Int)), (16, .slice (some ⟨fbb, fbo, none⟩) g.fs.length g.cap), (17, .int .i64 (g.fs.length : Int)), (18, .int .i64 (j : Int)), (31, .slice fa body.length fcap), (32, .int .i64 (body.length : Int)), (33, .int .i64 (q : Int))]
            [pts p7 (Fm.v ⟨m, fa, fcap, body⟩), pts hb (hV h'), pts rb (hV (List.replicate 16 0)), pts gb g.v]
          repeat (first | refine xst ?_ | refine xar ?_ | refine xop ?_ | refine xlen ?_ | refine xld rfl ?_ | refine xsto rfl ?_ | refine xno ?_ | refine xt ?_ | refine xf ?_ | refine xnu ?_)
          refine xd (q := (q : Int) < (body.length : Int)) (fun hql => ?_) (fun hql => ?_)
          · have hql : q < body.length := by omega
            obtain ⟨bb, bo, rfl, hbs⟩ := hbf.some (by omega)
            haveI := hbs
            have hg := sgsV_get hql
            have hd : body.drop q = body[q] :: body.drop (q + 1) := List.drop_eq_getElem_cons hql
            have hs16 := hb16 _ (List.getElem_mem hql)
            have hs0 := hnn _ (List.getElem_mem hql)
            rw [hd] at hgo
            generalize body[q] = s at hg hd hs16 hs0 hgo
            obtain ⟨sn, lo, hi'⟩ := s
            simp only at hs16 hs0
            obtain ⟨sk, rfl⟩ : ∃ k : Nat, sn = k := ⟨sn.toNat, by omega⟩
            have hsk : sk < 16 := by omega
            have hgo : hGo h' body.length 0 body body.length = hGo h' body.length ((q : Int) + 1) (body.drop (q + 1)) (maxI most (IntKind.i64.wrap ((body.length : Int) - 1 - q + h'.getD sk 0))) := hgo
            repeat (first | refine xst ?_ | refine xar ?_ | refine xop ?_ | refine xlen ?_ | refine xld rfl ?_ | refine xsto rfl ?_ | refine xno ?_ | refine xt ?_ | refine xf ?_ | refine xnu ?_)
            refine xix ?_ (hk := hql)
            refine xldla rfl (q * 3) (Sg.v ⟨sk, lo, hi'⟩) rfl hg (by rw [sgsV_len]; show q * 3 + 3 ≤ _; omega) ?_
            repeat (first | refine xst ?_ | refine xar ?_ | refine xop ?_ | refine xlen ?_ | refine xld rfl ?_ | refine xsto rfl ?_ | refine xno ?_ | refine xt ?_ | refine xf ?_ | refine xnu ?_)
            refine xnew fun p10 => ?_
            refine xop ?_
            refine xsto rfl ?_
            refine xrep 0 (Sg.v ⟨sk, lo, hi'⟩) rfl rfl ?_
            repeat (first | refine xst ?_ | refine xar ?_ | refine xop ?_ | refine xlen ?_ | refine xld rfl ?_ | refine xsto rfl ?_ | refine xno ?_ | refine xt ?_ | refine xf ?_ | refine xnu ?_)
            refine xdraw ?_
            refine xdop 0 ?_
            refine xdop 1 ?_
            refine xdld 2 rfl rfl ?_
            refine xdlen 3 ?_
            (first | refine xdar 4 ?_ | refine xdop 4 ?_)
            refine xE 42 (.int .i64 ((body.length : Int) - 1)) rfl (congrArg (Value.int .i64) (show IntKind.i64.wrap ((body.length : Int) - 1) = _ from wrap_in (k := .i64) ⟨by omega, by omega⟩)) ?_
            refine xdop 5 ?_
            (first | refine xdar 6 ?_ | refine xdop 6 ?_)
            refine xdop 7 ?_
            refine xdld 8 rfl rfl ?_
            refine xdix 9 ?_ (hk := hsk)
            refine xEp 47 sk rfl (by show 0 + sk = sk; omega) ?_
            refine xdld 10 rfl rfl ?_ (hv := hV_get (by omega))
            (first | refine xdar 11 ?_ | refine xdop 11 ?_)
            refine xdact 12 ?_
            refine xmm ?_
            refine xst ?_
            refine xdop 13 ?_
            refine xdend ?_
            repeat (first | refine xst ?_ | refine xar ?_ | refine xop ?_ | refine xlen ?_ | refine xld rfl ?_ | refine xsto rfl ?_ | refine xno ?_ | refine xt ?_ | refine xf ?_ | refine xnu ?_)
            exact G.fin (q + 1, maxI most (IntKind.i64.wrap ((body.length : Int) - 1 - q + h'.getD sk 0))) ⟨⟨by show q + 1 ≤ _; omega, hgo⟩, by show body.length - (q + 1) < body.length - q; omega⟩ ⟨rfl, rfl, rfl, rfl, rfl, rfl, rfl, rfl, rfl, rfl, rfl, rfl, rfl, rfl, trivial⟩ ent_pick
          · rw [List.drop_eq_nil_of_le (by omega)] at hgo
            have hgo : hGo h' body.length 0 body body.length = most := hgo
            repeat (first | refine xst ?_ | refine xar ?_ | refine xop ?_ | refine xlen ?_ | refine xld rfl ?_ | refine xsto rfl ?_ | refine xno ?_ | refine xt ?_ | refine xf ?_ | refine xnu ?_)
            exact G.fin () trivial ⟨rfl, rfl, rfl, rfl, rfl, by rw [hgo]; rfl, rfl, rfl, rfl, rfl, rfl, trivial⟩ (Ent.refl _)
        rintro _ _
        generalize hGo h' body.length 0 body body.length = most at hp
        show G C _ [(1, .pointer (some ⟨fb, 0, none⟩)), (2, .pointer (some ⟨gb, 0, none⟩)), (4, .pointer (some ⟨rb, 0, none⟩)), (5, .pointer (some ⟨hb, 0, none⟩)), (7, .pointer (some ⟨p7, 0, none⟩)), (8, .int .i64 most), (12, .int .i64 (n : Int)), (13, .int .i64 (i : Int)), (16, .slice (some ⟨fbb, fbo, none⟩) g.fs.length g.cap), (17, .int .i64 (g.fs.length : Int)), (18, .int .i64 (j : Int))]
          [pts p7 (Fm.v ⟨m, fa, fcap, body⟩), pts hb (hV h'), pts rb (hV (List.replicate 16 0)), pts gb g.v]
        repeat (first | refine xst ?_ | refine xar ?_ | refine xop ?_ | refine xlen ?_ | refine xld rfl ?_ | refine xsto rfl ?_ | refine xno ?_ | refine xt ?_ | refine xf ?_ | refine xnu ?_)
        refine xix ?_ (hk := hm)
        refine xEp 55 m rfl (by show 0 + m = m; omega) ?_
        refine xsto rfl ?_ (hm := (putF_one (by rw [hV_len, hhl']; exact hm)).trans (congrArg some (hV_set h' m most)))
        repeat (first | refine xst ?_ | refine xar ?_ | refine xop ?_ | refine xlen ?_ | refine xld rfl ?_ | refine xsto rfl ?_ | refine xno ?_ | refine xt ?_ | refine xf ?_ | refine xnu ?_)
        rw [← hfa]
        exact G.fin (j + 1, h'.set m most) ⟨⟨by show j + 1 ≤ _; omega, by simp [hhl'], hp⟩, by show g.fs.length - (j + 1) < g.fs.length - j; omega⟩ ⟨rfl, rfl, rfl, rfl, rfl, rfl, rfl, rfl, rfl, trivial⟩ ent_pick
    · rw [List.drop_eq_nil_of_le (by omega)] at hp
      have hp : hPass F g.fs h = h' := hp
      repeat (first | refine xst ?_ | refine xar ?_ | refine xop ?_ | refine xlen ?_ | refine xld rfl ?_ | refine xsto rfl ?_ | refine xno ?_ | refine xt ?_ | refine xf ?_ | refine xnu ?_)
      exact G.fin (i + 1, h') ⟨⟨by show i + 1 ≤ n; omega, hhl', by rw [hv', hp]⟩, by show n - (i + 1) < n - i; omega⟩ ⟨rfl, rfl, rfl, rfl, rfl, rfl, trivial⟩ ent_pick
  · have hv : heightsF F g.fs n = h := by rw [hv, show n - i = 0 by omega]; rfl
    have hln : (hV h).length = 16 := by rw [hV_len, hhl]
    repeat (first | refine xst ?_ | refine xar ?_ | refine xop ?_ | refine xlen ?_ | refine xld rfl ?_ | refine xsto rfl ?_ | refine xno ?_ | refine xt ?_ | refine xf ?_ | refine xnu ?_)
    refine xld rfl ?_ (hv := partF_all rfl hln)
    refine xsta (cs := hV h) rfl hln (hV_one _) (hV h) (put_all (by rw [hln]; rfl)) (by rw [hln]; exact Nat.le_of_ble_eq_true rfl) ?_
    repeat (first | refine xst ?_ | refine xar ?_ | refine xop ?_ | refine xlen ?_ | refine xld rfl ?_ | refine xsto rfl ?_ | refine xno ?_ | refine xt ?_ | refine xf ?_ | refine xnu ?_)
    exact xretm [] rfl (.c .nil rfl rfl (partF_all rfl hln)) ⟨by rw [hv]; rfl, rfl⟩

/-! ## The form that is chosen -/
def chV : Option Fm → Value
  | some f => .tuple #[.slice f.a f.body.length f.cap, .bool true]
  | none => .tuple #[.slice none 0 0, .bool false]
theorem choose_spec (F : Fx) (hF : F.ok) (fb : Nat) (g : Gr) (hlen : g.fs.length ≤ 1000000) (hwf : ∀ f ∈ g.fs, f.wf) (name : Nat) (sa : Option Addr) (scap : Nat) (s : List UInt8) :
    Fun Tryd.prog 34 [.pointer (some ⟨fb, 0, none⟩), .agg g.v.toArray, .int .i64 (name : Int), .slice sa s.length scap] (rdb fb F.v :: slR 1 sa s.length scap (bsV s) :: g.rd) [] fun v H => v = chV (chF F name g.fs s) ∧ H = [] := by
  refine xenter (p := pg) Tryd.call34 Tryd.func34 fun C => ?_
  haveI := RP.rdb (RP.of C (X := rdb fb F.v) (by simp))
  have hs := RP.slR (RP.of C (X := slR 1 sa s.length scap (bsV s)) (by simp))
  have hr : RS C 2 g.a g.fs.length g.cap (fmsV g.fs) := RP.slR (RP.of C (X := slR 2 g.a g.fs.length g.cap (fmsV g.fs)) (by simp [Gr.rd]))
  have hfr : ∀ f ∈ g.fs, RS C 3 f.a f.body.length f.cap (sgsV f.body) := fun f hf => RP.slR (RP.of C (List.mem_cons_of_mem _ (List.mem_cons_of_mem _ (fm_rd g hf))))
  have hfl := fmsV_len g.fs
  refine xst ?_
  refine xst ?_
  refine xnew fun gb => ?_
  refine xrep 0 g.v rfl rfl ?_
  cases s with
  | nil =>
    repeat (first | refine xst ?_ | refine xar ?_ | refine xop ?_ | refine xlen ?_ | refine xld rfl ?_ | refine xsto rfl ?_ | refine xno ?_ | refine xt ?_ | refine xf ?_ | refine xnu ?_)
    refine xretp [] ?_
    exact ⟨rfl, rfl⟩
  | cons c s =>
    obtain ⟨sb, so, rfl, hsb⟩ := hs.some (Nat.zero_lt_succ _)
    repeat (refine xnot 14 ?_; first | refine xst ?_ | refine xar ?_ | refine xop ?_ | refine xlen ?_ | refine xld rfl ?_ | refine xsto rfl ?_ | refine xno ?_ | refine xt ?_ | refine xf ?_ | refine xnu ?_)
    refine xE 14 (.bool false) rfl (congrArg Value.bool (decide_eq_false (by simp only [List.length_cons]; omega))) ?_
    repeat (first | refine xst ?_ | refine xar ?_ | refine xop ?_ | refine xlen ?_ | refine xld rfl ?_ | refine xsto rfl ?_ | refine xno ?_ | refine xt ?_ | refine xf ?_ | refine xnu ?_)
    have hch : chF F name g.fs (c :: s) = g.fs.find? fun f => decide (f.name = (name : Int)) && (startF F f.body).testBit c.toNat := rfl
    refine G.loop (σ := Nat) (fun i => [(0, .pointer (some ⟨fb, 0, none⟩)), (2, .int .i64 (name : Int)), (3, .slice (some ⟨sb, so, none⟩) (c :: s).length scap), (5, .pointer (some ⟨gb, 0, none⟩)), (16, .slice g.a g.fs.length g.cap), (17, .int .i64 (g.fs.length : Int)), (18, .int .i64 (i : Int))])
      (fun _ => [pts gb g.v]) (fun i => i ≤ g.fs.length ∧ chF F name g.fs (c :: s) = (g.fs.drop i).find? fun f => decide (f.name = (name : Int)) && (startF F f.body).testBit c.toNat) (fun i => g.fs.length - i) 0 ⟨Nat.zero_le _, hch⟩ ⟨rfl, rfl, rfl, rfl, rfl, rfl, rfl, trivial⟩ (Ent.refl _) ?_
    rintro i ⟨hi, hv⟩
    have hi : i ≤ g.fs.length := hi
    clear hch
    show G C _ [(0, .pointer (some ⟨fb, 0, none⟩)), (2, .int .i64 (name : Int)), (3, .slice (some ⟨sb, so, none⟩) (c :: s).length scap), (5, .pointer (some ⟨gb, 0, none⟩)), (16, .slice g.a g.fs.length g.cap), (17, .int .i64 (g.fs.length : Int)), (18, .int .i64 (i : Int))] [pts gb g.v]
    repeat (first | refine xst ?_ | refine xar ?_ | refine xop ?_ | refine xlen ?_ | refine xld rfl ?_ | refine xsto rfl ?_ | refine xno ?_ | refine xt ?_ | refine xf ?_ | refine xnu ?_)
    refine xd (q := (i : Int) < (g.fs.length : Int)) (fun h => ?_) (fun h => ?_)
    · have h : i < g.fs.length := by omega
      obtain ⟨fbb, fbo, hfa, hrb⟩ := hr.some (by omega)
      rw [hfa]
      haveI := hrb
      have hel := fmsV_get h
      have hd : g.fs.drop i = g.fs[i] :: g.fs.drop (i + 1) := List.drop_eq_getElem_cons h
      have hmem : g.fs[i] ∈ g.fs := List.getElem_mem h
      rw [hd, List.find?_cons] at hv
      generalize g.fs[i] = f at hel hd hmem hv
      have hbf := hfr f hmem
      obtain ⟨h0, h16, hb16, hbl⟩ := hwf f hmem
      obtain ⟨nm, fa, fcap, body⟩ := f
      simp only at hbf h0 h16 hb16 hbl hv
      repeat (first | refine xst ?_ | refine xar ?_ | refine xop ?_ | refine xlen ?_ | refine xld rfl ?_ | refine xsto rfl ?_ | refine xno ?_ | refine xt ?_ | refine xf ?_ | refine xnu ?_)
      refine xix ?_ (hk := h)
      refine xldla rfl (i * 2) (Fm.v ⟨nm, fa, fcap, body⟩) rfl hel (by rw [hfl]; show i * 2 + 2 ≤ _; omega) ?_
      repeat (first | refine xst ?_ | refine xar ?_ | refine xop ?_ | refine xlen ?_ | refine xld rfl ?_ | refine xsto rfl ?_ | refine xno ?_ | refine xt ?_ | refine xf ?_ | refine xnu ?_)
      refine xnew fun p11 => ?_
      refine xsto rfl ?_
      refine xrep 0 (Fm.v ⟨nm, fa, fcap, body⟩) rfl rfl ?_
      repeat (first | refine xst ?_ | refine xar ?_ | refine xop ?_ | refine xlen ?_ | refine xld rfl ?_ | refine xsto rfl ?_ | refine xno ?_ | refine xt ?_ | refine xf ?_ | refine xnu ?_)
      by_cases hne : nm = (name : Int)
      · rw [decide_eq_true hne, Bool.true_and] at hv
        refine xdraw ?_
        refine xdop 0 ?_
        refine xdld 1 rfl rfl ?_
        refine xdop 2 ?_
        refine xdop 3 ?_
        refine xE 25 (.bool true) rfl (congrArg Value.bool (decide_eq_true hne)) ?_
        refine xdop 4 ?_
        (first | refine xdno 5 ?_ | refine xdop 5 ?_ | refine xdnu 5 ?_)
        (first | refine xdno 6 ?_ | refine xdop 6 ?_ | refine xdnu 6 ?_)
        (first | refine xdno 7 ?_ | refine xdld 7 rfl rfl ?_ | refine xdnu 7 ?_)
        (first | refine xdno 9 ?_ | refine xdop 9 ?_ | refine xdnu 9 ?_)
        (first | refine xdno 10 ?_ | refine xdix 10 ?_ (hk := by first | omega | exact Nat.le_of_ble_eq_true rfl) | refine xdnu 10 ?_)
        refine xdldl 11 rfl rfl 0 rfl (Nat.zero_lt_succ _) ?_
        refine xdact 8 ?_
        refine xcall (start_spec F hF fb fa fcap body hb16 hbl) ?_
        rintro v H ⟨rfl, rfl⟩
        refine G.app ?_
        refine xst ?_
        refine xdact 12 ?_
        refine xcall (has_spec (startF F body) c) ?_
        rintro v H ⟨rfl, rfl⟩
        refine G.app ?_
        refine xst ?_
        refine xdop 13 ?_
        refine xdend ?_
        cases hb : (startF F body).testBit c.toNat with
        | true =>
          rw [hb] at hv
          repeat (first | refine xst ?_ | refine xar ?_ | refine xop ?_ | refine xlen ?_ | refine xld rfl ?_ | refine xsto rfl ?_ | refine xno ?_ | refine xt ?_ | refine xf ?_ | refine xnu ?_)
          refine xretp [] ⟨?_, rfl⟩
          rw [hv]; rfl
        | false =>
          rw [hb] at hv
          repeat (first | refine xst ?_ | refine xar ?_ | refine xop ?_ | refine xlen ?_ | refine xld rfl ?_ | refine xsto rfl ?_ | refine xno ?_ | refine xt ?_ | refine xf ?_ | refine xnu ?_)
          rw [← hfa]
          exact G.fin (i + 1) ⟨⟨by show i + 1 ≤ _; omega, hv⟩, by show g.fs.length - (i + 1) < g.fs.length - i; omega⟩ ⟨rfl, rfl, rfl, rfl, rfl, rfl, rfl, trivial⟩ ent_pick
      · rw [decide_eq_false hne, Bool.false_and] at hv
        refine xdraw ?_
        refine xdop 0 ?_
        refine xdld 1 rfl rfl ?_
        refine xdop 2 ?_
        refine xdop 3 ?_
        refine xE 25 (.bool false) rfl (congrArg Value.bool (decide_eq_false hne)) ?_
        refine xdop 4 ?_
        (first | refine xdno 5 ?_ | refine xdop 5 ?_ | refine xdnu 5 ?_)
        (first | refine xdno 6 ?_ | refine xdop 6 ?_ | refine xdnu 6 ?_)
        (first | refine xdno 7 ?_ | refine xdld 7 rfl rfl ?_ | refine xdnu 7 ?_)
        (first | refine xdno 9 ?_ | refine xdop 9 ?_ | refine xdnu 9 ?_)
        (first | refine xdno 10 ?_ | refine xdix 10 ?_ (hk := by first | omega | exact Nat.le_of_ble_eq_true rfl) | refine xdnu 10 ?_)
        (first | refine xdno 11 ?_ | refine xdld 11 rfl rfl ?_ | refine xdnu 11 ?_)
        refine xdact 8 ?_
        refine xno ?_
        refine xst ?_
        refine xdact 12 ?_
        refine xno ?_
        refine xst ?_
        refine xdop 13 ?_
        refine xdend ?_
        repeat (first | refine xst ?_ | refine xar ?_ | refine xop ?_ | refine xlen ?_ | refine xld rfl ?_ | refine xsto rfl ?_ | refine xno ?_ | refine xt ?_ | refine xf ?_ | refine xnu ?_)
        rw [← hfa]
        exact G.fin (i + 1) ⟨⟨by show i + 1 ≤ _; omega, hv⟩, by show g.fs.length - (i + 1) < g.fs.length - i; omega⟩ ⟨rfl, rfl, rfl, rfl, rfl, rfl, rfl, trivial⟩ ent_pick
    · rw [List.drop_eq_nil_of_le (by omega)] at hv
      have hv : chF F name g.fs (c :: s) = none := hv
      repeat (first | refine xst ?_ | refine xar ?_ | refine xop ?_ | refine xlen ?_ | refine xld rfl ?_ | refine xsto rfl ?_ | refine xno ?_ | refine xt ?_ | refine xf ?_ | refine xnu ?_)
      refine xretp [] ⟨?_, rfl⟩
      rw [hv]; rfl
end Go.Proofs.YthlaacnjgdmakaaDoor

/- gram: Match. -/
namespace Go.Proofs.YthlaacnjgdmakaaDoor
open Go.W

theorem FitR.fit {g : Gr} {F : Fx} (h : FitR g F []) : Fit g.names.toNat g.fs F := by
  rcases h with ⟨h1, _, h3⟩ | ⟨h1, S, h2, h3, h4⟩
  · exact absurd h3.symm h1
  · rw [if_pos rfl] at h4
    subst h4
    obtain ⟨s1, s2, s3, s4⟩ := shapeF_nil h1
    refine ⟨by omega, fun f hf => ?_, h2, fun n hn => ?_⟩
    · obtain ⟨w, a, b, c⟩ := s4 f hf
      exact ⟨w.name0, by omega, fun s hs => by have := c s hs; omega⟩
    · unfold fitL at h3
      split at h3
      · simp [newF] at h3
      · split at h3
        · simp [newF] at h3
        · rename_i _ _ hc
          rw [List.find?_eq_none] at hc
          have := hc n (List.mem_range.2 hn)
          simpa using this
theorem FitR.shape {g : Gr} {F : Fx} (h : FitR g F []) : shapeF g = [] ∧ Study g.fs F := by
  rcases h with ⟨h1, _, h3⟩ | ⟨h1, S, h2, h3, h4⟩
  · exact absurd h3.symm h1
  · rw [if_pos rfl] at h4
    exact ⟨h1, h4 ▸ h2⟩

/-- Match, as it stands. -/
structure MS where
  k : Nat
  st : List Sg
  s : List UInt8
  sa : Option Addr
  scap : Nat
  a : Option Addr
  cap : Nat
theorem sgsV_append (l m : List Sg) : sgsV (l ++ m) = sgsV l ++ sgsV m := by simp [sgsV]
theorem top_get (t : Sg) (st : List Sg) : ((sgsV (t :: st).reverse).drop (st.length * 3)).take 3 = t.v := by
  have hl : (sgsV st.reverse).length = st.length * 3 := by rw [sgsV_len, List.length_reverse]
  have := drop_len (B := sgsV [t]) hl 0
  rw [Nat.add_zero] at this
  rw [List.reverse_cons, sgsV_append, this]; rfl
theorem top_cut (t : Sg) (st : List Sg) : (sgsV (t :: st).reverse).take (st.length * 3) = sgsV st.reverse := by
  have hl : (sgsV st.reverse).length = st.length * 3 := by rw [sgsV_len, List.length_reverse]
  have := take_len (B := sgsV [t]) hl 0
  rw [Nat.add_zero] at this
  rw [List.reverse_cons, sgsV_append, this]; simp
def matchR (g : Gr) (bs : List UInt8) (F : Fx) (l : List (Int × Int)) (v : Value) : Prop :=
  (l ≠ [] ∧ v = .tuple #[.int .i64 0, .int .i64 3]) ∨ (l = [] ∧ ∃ k r, mGo F g.fs (heightsF F g.fs g.names.toNat) k [⟨0, 0, 0⟩] bs = some r ∧ v = .tuple #[.int .i64 r, .int .i64 0])

theorem match_spec (g : Gr) (hlen : g.fs.length ≤ 1000000) (hbl : ∀ f ∈ g.fs, f.body.length ≤ 1000000) (a : Option Addr) (n cap : Nat) (bs : List UInt8) (hn : n = bs.length) (hl : n ≤ 1000000) :
    Fun Tryd.prog 11 [.agg g.v.toArray, .slice a n cap] (slR 1 a n cap (bsV bs) :: g.rd) [] fun v H => ∃ F l, FitR g F l ∧ matchR g bs F l v ∧ H = [] := by
  subst hn
  refine xenter (p := pg) Tryd.call11 Tryd.func11 fun C => ?_
  haveI hrd : ∀ H, RdAll C H g.rd := fun H => ⟨fun r hr => by haveI := RP.of C (List.mem_cons_of_mem _ hr); infer_instance⟩
  have hbs := RP.slR (RP.of C (X := slR 1 a bs.length cap (bsV bs)) (by simp))
  have hfr : ∀ f ∈ g.fs, RS C 3 f.a f.body.length f.cap (sgsV f.body) := fun f hf => RP.slR (RP.of C (List.mem_cons_of_mem _ (fm_rd g hf)))
  refine xst ?_
  refine xst ?_
  refine xnew fun gb => ?_
  refine xrep 0 g.v rfl rfl ?_
  repeat (first | refine xst ?_ | refine xar ?_ | refine xop ?_ | refine xlen ?_ | refine xld rfl ?_ | refine xsto rfl ?_ | refine xno ?_ | refine xt ?_ | refine xf ?_ | refine xnu ?_)
  refine xcall (fit_spec g hlen hbl) ?_
  rintro v H ⟨F, l, e, hok, hR, he, rfl, rfl⟩
  refine G.app ?_
  have hvl := Fx.v_len hok
  repeat (first | refine xst ?_ | refine xar ?_ | refine xop ?_ | refine xlen ?_ | refine xld rfl ?_ | refine xsto rfl ?_ | refine xno ?_ | refine xt ?_ | refine xf ?_ | refine xnu ?_)
  refine xnew fun fb => ?_
  refine xsta (cs := F.v) rfl hvl (Fx.v_one _) F.v (put_all (by rw [hvl, zlen])) (by rw [hvl, zlen]; omega) ?_
  cases l with
  | cons q r =>
    obtain ⟨c, x⟩ := q
    refine G.fact (chain ((c, x) :: r) e) (P := ∃ b : Nat, e = .iface 128 (.pointer (some ⟨b, 0, none⟩))) (fun w F h => by obtain ⟨b, u, F1, F2, ⟨h1, h2⟩, _⟩ := h; exact ⟨b, h1⟩) fun h => ?_
    obtain ⟨eb, rfl⟩ := h
    repeat (first | refine xst ?_ | refine xar ?_ | refine xop ?_ | refine xlen ?_ | refine xld rfl ?_ | refine xsto rfl ?_ | refine xno ?_ | refine xt ?_ | refine xf ?_ | refine xnu ?_)
    refine xretp [] ?_
    exact ⟨F, _, hR, .inl ⟨by simp, rfl⟩, rfl⟩
  | nil =>
    refine G.fact (chain [] e) (P := e = .nilIface) (fun w F h => h) fun h => ?_
    subst h
    obtain ⟨hsh, hS⟩ := hR.shape
    have hfit := hR.fit
    obtain ⟨s1, s2, s3, s4⟩ := shapeF_nil hsh
    have hwf : ∀ f ∈ g.fs, f.wf := fun f hf => (s4 f hf).1
    repeat (first | refine xst ?_ | refine xar ?_ | refine xop ?_ | refine xlen ?_ | refine xld rfl ?_ | refine xsto rfl ?_ | refine xno ?_ | refine xt ?_ | refine xf ?_ | refine xnu ?_)
    refine xcall (heights_spec F hok fb g hlen hwf g.names.toNat (by omega) (by omega)) ?_
    rintro v H ⟨rfl, rfl⟩
    refine G.app ?_
    obtain ⟨hs, hhs⟩ : ∃ hs, heightsF F g.fs g.names.toNat = hs := ⟨_, rfl⟩
    have hhl : hs.length = 16 := by rw [← hhs]; exact heightsF_len _ _ _
    have hln : (hV hs).length = 16 := by rw [hV_len, hhl]
    obtain ⟨k0, r0, hk0⟩ := hfit.ends hs bs [⟨0, 0, 0⟩] (fun t ht => by rw [List.mem_singleton.1 ht]; show (0 : Int) < _; omega)
    rw [hhs]
    refine xnew fun hb => ?_
    refine xsta (cs := hV hs) rfl hln (hV_one _) (hV hs) (put_all (by rw [hln]; rfl)) (by rw [hln]; exact Nat.le_of_ble_eq_true rfl) ?_
    repeat (first | refine xst ?_ | refine xar ?_ | refine xop ?_ | refine xlen ?_ | refine xld rfl ?_ | refine xsto rfl ?_ | refine xno ?_ | refine xt ?_ | refine xf ?_ | refine xnu ?_)
    refine xbsl fun b9 => ?_
    refine xslc 0 3 1 (sgsV [⟨0, 0, 0⟩]) rfl rfl rfl ?_
    repeat (first | refine xst ?_ | refine xar ?_ | refine xop ?_ | refine xlen ?_ | refine xld rfl ?_ | refine xsto rfl ?_ | refine xno ?_ | refine xt ?_ | refine xf ?_ | refine xnu ?_)
    have hpost : ∀ r, r = r0 → ∃ F l, FitR g F l ∧ matchR g bs F l (.tuple #[.int .i64 r, .int .i64 0]) ∧ ([] : List HProp) = [] := fun r hr => ⟨F, [], hR, .inr ⟨rfl, k0, r0, by rw [hhs]; exact hk0, by rw [hr]⟩, rfl⟩
    refine G.loop (σ := MS) (fun s => [(2, .pointer (some ⟨gb, 0, none⟩)), (1, .slice s.sa s.s.length s.scap), (6, .pointer (some ⟨fb, 0, none⟩)), (8, .pointer (some ⟨hb, 0, none⟩)), (9, .slice s.a s.st.length s.cap)])
      (fun s => [sl 3 s.a s.st.length s.cap (sgsV s.st.reverse), pts hb (hV hs), pts fb F.v, pts gb g.v])
      (fun s => mGo F g.fs hs s.k s.st s.s = some r0 ∧ RS C 1 s.sa s.s.length s.scap (bsV s.s) ∧ (∀ t ∈ s.st, t.name < 16) ∧ s.st.length ≤ 32 ∧ s.s.length ≤ 1000000) (fun s => s.k) ⟨k0, [⟨0, 0, 0⟩], bs, a, cap, some ⟨b9, 0, none⟩, 1⟩
      ⟨hk0, hbs, fun t ht => by rw [List.mem_singleton.1 ht]; show (0 : Int) < 16; omega, by show 1 ≤ 32; omega, hl⟩ ⟨rfl, rfl, rfl, rfl, rfl, trivial⟩ (by show Ent _ [sl 3 (some ⟨b9, 0, none⟩) 1 1 (sgsV [⟨0, 0, 0⟩]), pts hb (hV hs), pts fb F.v, pts gb g.v]; exact ent_pick) ?_
    rintro ⟨k, st, s, sa, scap, a9, cap9⟩ ⟨hm, hss, h16, h32, hsl⟩
    simp only at hm hss h16 h32 hsl
    show G C _ [(2, .pointer (some ⟨gb, 0, none⟩)), (1, .slice sa s.length scap), (6, .pointer (some ⟨fb, 0, none⟩)), (8, .pointer (some ⟨hb, 0, none⟩)), (9, .slice a9 st.length cap9)] [sl 3 a9 st.length cap9 (sgsV st.reverse), pts hb (hV hs), pts fb F.v, pts gb g.v]
    cases k with
    | zero => cases hm
    | succ k =>
    cases st with
    | nil =>
      have hm : some (if s.length = 0 then (1 : Int) else 0) = some r0 := hm
      have hm := Option.some.inj hm
      repeat (first | refine xst ?_ | refine xar ?_ | refine xop ?_ | refine xlen ?_ | refine xld rfl ?_ | refine xsto rfl ?_ | refine xno ?_ | refine xt ?_ | refine xf ?_ | refine xnu ?_)
      refine xd (q := (0 : Int) < (s.length : Int)) (fun h => ?_) (fun h => ?_)
      · rw [if_neg (by omega)] at hm
        repeat (first | refine xst ?_ | refine xar ?_ | refine xop ?_ | refine xlen ?_ | refine xld rfl ?_ | refine xsto rfl ?_ | refine xno ?_ | refine xt ?_ | refine xf ?_ | refine xnu ?_)
        refine xretp [] ?_
        exact (hpost 0 hm)
      · rw [if_pos (by omega)] at hm
        repeat (first | refine xst ?_ | refine xar ?_ | refine xop ?_ | refine xlen ?_ | refine xld rfl ?_ | refine xsto rfl ?_ | refine xno ?_ | refine xt ?_ | refine xf ?_ | refine xnu ?_)
        refine xretp [] ?_
        exact (hpost 1 hm)
    | cons t st =>
      have hst : st.length + 1 ≤ 32 := h32
      refine xslf 0 rfl fun q1 q2 q3 => ?_
      have q2 : st.length + 1 ≤ cap9 := q2
      obtain ⟨bb, bo, rfl⟩ := q3 (by omega)
      have ht16 := h16 t List.mem_cons_self
      have hg := top_get t st
      have hcut := top_cut t st
      repeat (refine xnot 27 ?_; first | refine xst ?_ | refine xar ?_ | refine xop ?_ | refine xlen ?_ | refine xld rfl ?_ | refine xsto rfl ?_ | refine xno ?_ | refine xt ?_ | refine xf ?_ | refine xnu ?_)
      refine xE 27 (.bool true) rfl (congrArg Value.bool (decide_eq_true (by simp only [List.length_cons]; omega))) ?_
      repeat (refine xnot 31 ?_; first | refine xst ?_ | refine xar ?_ | refine xop ?_ | refine xlen ?_ | refine xld rfl ?_ | refine xsto rfl ?_ | refine xno ?_ | refine xt ?_ | refine xf ?_ | refine xnu ?_)
      refine xE 31 (.int .i64 (st.length : Int)) rfl (congrArg (Value.int .i64) (by simp only [List.length_cons]; omega)) ?_
      refine xix ?_ (hk := Nat.lt_succ_self _)
      refine xldla rfl (st.length * 3) t.v rfl hg (by rw [sgsV_len, List.length_reverse, List.length_cons]; show st.length * 3 + 3 ≤ _; omega) ?_
      refine xnew fun p10 => ?_
      refine xsto rfl ?_
      refine xrep 0 t.v rfl rfl ?_
      repeat (refine xnot 37 ?_; first | refine xst ?_ | refine xar ?_ | refine xop ?_ | refine xlen ?_ | refine xld rfl ?_ | refine xsto rfl ?_ | refine xno ?_ | refine xt ?_ | refine xf ?_ | refine xnu ?_)
      refine xE 37 (.int .i64 (st.length : Int)) rfl (congrArg (Value.int .i64) (by simp only [List.length_cons]; omega)) ?_
      refine xslice 0 st.length rfl rfl rfl (Nat.zero_le _) (by omega) ?_
      refine xE 38 (.slice (some ⟨bb, bo, none⟩) st.length cap9) rfl (by rw [subA_nought]; rfl) ?_
      refine xcut 1 st.length (sgsV st.reverse) rfl (Nat.le_succ _) hcut ?_
      repeat (refine xnot 41 ?_; first | refine xst ?_ | refine xar ?_ | refine xop ?_ | refine xlen ?_ | refine xld rfl ?_ | refine xsto rfl ?_ | refine xno ?_ | refine xt ?_ | refine xf ?_ | refine xnu ?_)
      by_cases hneg : t.name < 0
      · refine xE 41 (.bool true) rfl (congrArg Value.bool (decide_eq_true hneg)) ?_
        unfold mGo at hm
        rw [if_pos hneg] at hm
        repeat (first | refine xst ?_ | refine xar ?_ | refine xop ?_ | refine xlen ?_ | refine xld rfl ?_ | refine xsto rfl ?_ | refine xno ?_ | refine xt ?_ | refine xf ?_ | refine xnu ?_)
        cases s with
        | nil =>
          have hm : some (0 : Int) = some r0 := hm
          refine xdraw ?_
          refine xdop 0 ?_
          refine xdlen 1 ?_
          refine xdop 2 ?_
          refine xdop 3 ?_
          (first | refine xdno 4 ?_ | refine xdop 4 ?_ | refine xdnu 4 ?_)
          (first | refine xdno 5 ?_ | refine xdix 5 ?_ (hk := by first | omega | exact Nat.le_of_ble_eq_true rfl) | refine xdnu 5 ?_)
          (first | refine xdno 6 ?_ | refine xdld 6 rfl rfl ?_ | refine xdnu 6 ?_)
          (first | refine xdno 7 ?_ | refine xdop 7 ?_ | refine xdnu 7 ?_)
          (first | refine xdno 8 ?_ | refine xdld 8 rfl rfl ?_ | refine xdnu 8 ?_)
          (first | refine xdno 9 ?_ | refine xdop 9 ?_ | refine xdnu 9 ?_)
          refine xdop 10 ?_
          refine xdop 11 ?_
          (first | refine xdno 12 ?_ | refine xdop 12 ?_ | refine xdnu 12 ?_)
          (first | refine xdno 13 ?_ | refine xdix 13 ?_ (hk := by first | omega | exact Nat.le_of_ble_eq_true rfl) | refine xdnu 13 ?_)
          (first | refine xdno 14 ?_ | refine xdld 14 rfl rfl ?_ | refine xdnu 14 ?_)
          (first | refine xdno 15 ?_ | refine xdop 15 ?_ | refine xdnu 15 ?_)
          (first | refine xdno 16 ?_ | refine xdld 16 rfl rfl ?_ | refine xdnu 16 ?_)
          (first | refine xdno 17 ?_ | refine xdop 17 ?_ | refine xdnu 17 ?_)
          refine xdop 18 ?_
          refine xdend ?_
          repeat (first | refine xst ?_ | refine xar ?_ | refine xop ?_ | refine xlen ?_ | refine xld rfl ?_ | refine xsto rfl ?_ | refine xno ?_ | refine xt ?_ | refine xf ?_ | refine xnu ?_)
          refine xretp [] ?_
          exact (hpost 0 (Option.some.inj hm))
        | cons c s =>
          simp only at hm
          obtain ⟨sb, so, rfl, hsb⟩ := hss.some (Nat.zero_lt_succ _)
          have hl0 : ¬ (((c :: s).length : Nat) : Int) = 0 := by simp only [List.length_cons]; omega
          by_cases hlo : c.toNat < t.lo.toNat
          · rw [if_pos (.inl hlo)] at hm
            refine xdraw ?_
            refine xdop 0 ?_
            refine xdlen 1 ?_
            refine xdop 2 ?_
            refine xE 44 (.bool false) rfl (congrArg Value.bool (decide_eq_false hl0)) ?_
            refine xdop 3 ?_
            (first | refine xdno 4 ?_ | refine xdop 4 ?_ | refine xdnu 4 ?_)
            (first | refine xdno 5 ?_ | refine xdix 5 ?_ (hk := by first | omega | exact Nat.le_of_ble_eq_true rfl) | refine xdnu 5 ?_)
            refine xdldl 6 rfl rfl 0 rfl (Nat.zero_lt_succ _) ?_
            (first | refine xdno 7 ?_ | refine xdop 7 ?_ | refine xdnu 7 ?_)
            (first | refine xdno 8 ?_ | refine xdld 8 rfl rfl ?_ | refine xdnu 8 ?_)
            (first | refine xdno 9 ?_ | refine xdop 9 ?_ | refine xdnu 9 ?_)
            refine xE 51 (.bool true) rfl (congrArg Value.bool (decide_eq_true (show (c.toNat : Int) < (t.lo.toNat : Int) by omega))) ?_
            refine xdop 10 ?_
            refine xdop 11 ?_
            (first | refine xdno 12 ?_ | refine xdop 12 ?_ | refine xdnu 12 ?_)
            (first | refine xdno 13 ?_ | refine xdix 13 ?_ (hk := by first | omega | exact Nat.le_of_ble_eq_true rfl) | refine xdnu 13 ?_)
            (first | refine xdno 14 ?_ | refine xdld 14 rfl rfl ?_ | refine xdnu 14 ?_)
            (first | refine xdno 15 ?_ | refine xdop 15 ?_ | refine xdnu 15 ?_)
            (first | refine xdno 16 ?_ | refine xdld 16 rfl rfl ?_ | refine xdnu 16 ?_)
            (first | refine xdno 17 ?_ | refine xdop 17 ?_ | refine xdnu 17 ?_)
            refine xdop 18 ?_
            refine xdend ?_
            repeat (first | refine xst ?_ | refine xar ?_ | refine xop ?_ | refine xlen ?_ | refine xld rfl ?_ | refine xsto rfl ?_ | refine xno ?_ | refine xt ?_ | refine xf ?_ | refine xnu ?_)
            refine xretp [] ?_
            exact (hpost 0 (Option.some.inj hm))
          · by_cases hhi : t.hi.toNat < c.toNat
            · rw [if_pos (.inr hhi)] at hm
              refine xdraw ?_
              refine xdop 0 ?_
              refine xdlen 1 ?_
              refine xdop 2 ?_
              refine xE 44 (.bool false) rfl (congrArg Value.bool (decide_eq_false hl0)) ?_
              refine xdop 3 ?_
              (first | refine xdno 4 ?_ | refine xdop 4 ?_ | refine xdnu 4 ?_)
              (first | refine xdno 5 ?_ | refine xdix 5 ?_ (hk := by first | omega | exact Nat.le_of_ble_eq_true rfl) | refine xdnu 5 ?_)
              refine xdldl 6 rfl rfl 0 rfl (Nat.zero_lt_succ _) ?_
              (first | refine xdno 7 ?_ | refine xdop 7 ?_ | refine xdnu 7 ?_)
              (first | refine xdno 8 ?_ | refine xdld 8 rfl rfl ?_ | refine xdnu 8 ?_)
              (first | refine xdno 9 ?_ | refine xdop 9 ?_ | refine xdnu 9 ?_)
              refine xE 51 (.bool false) rfl (congrArg Value.bool (decide_eq_false (show ¬ ((c.toNat : Int) < (t.lo.toNat : Int)) by omega))) ?_
              refine xdop 10 ?_
              refine xdop 11 ?_
              (first | refine xdno 12 ?_ | refine xdop 12 ?_ | refine xdnu 12 ?_)
              (first | refine xdno 13 ?_ | refine xdix 13 ?_ (hk := by first | omega | exact Nat.le_of_ble_eq_true rfl) | refine xdnu 13 ?_)
              refine xdldl 14 rfl rfl 0 rfl (Nat.zero_lt_succ _) ?_
              (first | refine xdno 15 ?_ | refine xdop 15 ?_ | refine xdnu 15 ?_)
              (first | refine xdno 16 ?_ | refine xdld 16 rfl rfl ?_ | refine xdnu 16 ?_)
              (first | refine xdno 17 ?_ | refine xdop 17 ?_ | refine xdnu 17 ?_)
              refine xE 59 (.bool true) rfl (congrArg Value.bool (decide_eq_true (show (t.hi.toNat : Int) < (c.toNat : Int) by omega))) ?_
              refine xdop 18 ?_
              refine xdend ?_
              repeat (first | refine xst ?_ | refine xar ?_ | refine xop ?_ | refine xlen ?_ | refine xld rfl ?_ | refine xsto rfl ?_ | refine xno ?_ | refine xt ?_ | refine xf ?_ | refine xnu ?_)
              refine xretp [] ?_
              exact (hpost 0 (Option.some.inj hm))
            · rw [if_neg (by omega)] at hm
              refine xdraw ?_
              refine xdop 0 ?_
              refine xdlen 1 ?_
              refine xdop 2 ?_
              refine xE 44 (.bool false) rfl (congrArg Value.bool (decide_eq_false hl0)) ?_
              refine xdop 3 ?_
              (first | refine xdno 4 ?_ | refine xdop 4 ?_ | refine xdnu 4 ?_)
              (first | refine xdno 5 ?_ | refine xdix 5 ?_ (hk := by first | omega | exact Nat.le_of_ble_eq_true rfl) | refine xdnu 5 ?_)
              refine xdldl 6 rfl rfl 0 rfl (Nat.zero_lt_succ _) ?_
              (first | refine xdno 7 ?_ | refine xdop 7 ?_ | refine xdnu 7 ?_)
              (first | refine xdno 8 ?_ | refine xdld 8 rfl rfl ?_ | refine xdnu 8 ?_)
              (first | refine xdno 9 ?_ | refine xdop 9 ?_ | refine xdnu 9 ?_)
              refine xE 51 (.bool false) rfl (congrArg Value.bool (decide_eq_false (show ¬ ((c.toNat : Int) < (t.lo.toNat : Int)) by omega))) ?_
              refine xdop 10 ?_
              refine xdop 11 ?_
              (first | refine xdno 12 ?_ | refine xdop 12 ?_ | refine xdnu 12 ?_)
              (first | refine xdno 13 ?_ | refine xdix 13 ?_ (hk := by first | omega | exact Nat.le_of_ble_eq_true rfl) | refine xdnu 13 ?_)
              refine xdldl 14 rfl rfl 0 rfl (Nat.zero_lt_succ _) ?_
              (first | refine xdno 15 ?_ | refine xdop 15 ?_ | refine xdnu 15 ?_)
              (first | refine xdno 16 ?_ | refine xdld 16 rfl rfl ?_ | refine xdnu 16 ?_)
              (first | refine xdno 17 ?_ | refine xdop 17 ?_ | refine xdnu 17 ?_)
              refine xE 59 (.bool false) rfl (congrArg Value.bool (decide_eq_false (show ¬ ((t.hi.toNat : Int) < (c.toNat : Int)) by omega))) ?_
              refine xdop 18 ?_
              refine xdend ?_
              repeat (first | refine xst ?_ | refine xar ?_ | refine xop ?_ | refine xlen ?_ | refine xld rfl ?_ | refine xsto rfl ?_ | refine xno ?_ | refine xt ?_ | refine xf ?_ | refine xnu ?_)
              have hsub := RS.subB hss (k := 1) (m := (c :: s).length) (Nat.succ_le_succ (Nat.zero_le _)) (Nat.le_refl _)
              have hdrop : ((c :: s).drop 1).take ((c :: s).length - 1) = s := by simp
              rw [hdrop] at hsub
              refine xslice 1 (c :: s).length rfl rfl rfl (Nat.succ_le_succ (Nat.zero_le _)) hss.len.2 ?_
              repeat (first | refine xst ?_ | refine xar ?_ | refine xop ?_ | refine xlen ?_ | refine xld rfl ?_ | refine xsto rfl ?_ | refine xno ?_ | refine xt ?_ | refine xf ?_ | refine xnu ?_)
              exact G.fin ⟨k, st, s, subA (some ⟨sb, so, none⟩) 1 1 scap, scap - 1, some ⟨bb, bo, none⟩, cap9⟩ ⟨⟨hm, hsub, fun t' h' => h16 t' (List.mem_cons_of_mem _ h'), by show st.length ≤ 32; omega, by show s.length ≤ 1000000; have : s.length + 1 ≤ 1000000 := hsl; omega⟩, Nat.lt_succ_self _⟩ ⟨rfl, rfl, rfl, rfl, rfl, trivial⟩ ent_pick
      · refine xE 41 (.bool false) rfl (congrArg Value.bool (decide_eq_false hneg)) ?_
        obtain ⟨tn, lo, hi⟩ := t
        simp only at hneg ht16
        obtain ⟨m, rfl⟩ : ∃ m : Nat, tn = m := ⟨tn.toNat, by omega⟩
        have hm16 : m < 16 := by omega
        unfold mGo at hm
        rw [if_neg hneg] at hm
        simp only [Int.toNat_natCast] at hm
        haveI : RdOk C [pts p10 (Sg.v ⟨m, lo, hi⟩), sl 3 (some ⟨bb, bo, none⟩) st.length cap9 (sgsV st.reverse), pts hb (hV hs), pts fb F.v, pts gb g.v] (slR 1 sa s.length scap (bsV s)) := RdOk.rs' hss
        repeat (first | refine xst ?_ | refine xar ?_ | refine xop ?_ | refine xlen ?_ | refine xld rfl ?_ | refine xsto rfl ?_ | refine xno ?_ | refine xt ?_ | refine xf ?_ | refine xnu ?_)
        refine xcall (rs := rdb fb F.v :: slR 1 sa s.length scap (bsV s) :: g.rd) (choose_spec F hok fb g hlen hwf m sa scap s) ?_
        rintro v H ⟨rfl, rfl⟩
        refine G.app ?_
        cases hc : chF F m g.fs s with
        | some f =>
          rw [hc] at hm
          simp only at hm
          obtain ⟨_, _, _, hmem, _, _⟩ := chF_some hc
          have hbf := hfr f hmem
          have hf8 := (s4 f hmem).2.2.1
          have hb16 := (hwf f hmem).body
          refine xE 68 (.tuple #[.slice f.a f.body.length f.cap, .bool true]) rfl rfl ?_
          repeat (refine xnot 75 ?_; first | refine xst ?_ | refine xar ?_ | refine xop ?_ | refine xlen ?_ | refine xld rfl ?_ | refine xsto rfl ?_ | refine xno ?_ | refine xt ?_ | refine xf ?_ | refine xnu ?_)
          refine xop ?_
          refine xst ?_
          refine G.cut (σ := Option Addr × Nat) (fun q => [(2, .pointer (some ⟨gb, 0, none⟩)), (1, .slice sa s.length scap), (6, .pointer (some ⟨fb, 0, none⟩)), (8, .pointer (some ⟨hb, 0, none⟩)), (9, .slice q.1 (f.body ++ st).length q.2)])
            (fun q => [sl 3 q.1 (f.body ++ st).length q.2 (sgsV (f.body ++ st).reverse), pts hb (hV hs), pts fb F.v, pts gb g.v]) (fun _ => True) ?_ ?_
          · repeat (first | refine xst ?_ | refine xar ?_ | refine xop ?_ | refine xlen ?_ | refine xld rfl ?_ | refine xsto rfl ?_ | refine xno ?_ | refine xt ?_ | refine xf ?_ | refine xnu ?_)
            refine G.loop (σ := Nat × Option Addr × Nat) (fun q => [(2, .pointer (some ⟨gb, 0, none⟩)), (1, .slice sa s.length scap), (6, .pointer (some ⟨fb, 0, none⟩)), (8, .pointer (some ⟨hb, 0, none⟩)), (9, .slice q.2.1 (f.body.drop q.1 ++ st).length q.2.2), (11, .slice f.a f.body.length f.cap), (13, .int .i64 ((q.1 : Int) - 1))])
              (fun q => [sl 3 q.2.1 (f.body.drop q.1 ++ st).length q.2.2 (sgsV (f.body.drop q.1 ++ st).reverse), pts hb (hV hs), pts fb F.v, pts gb g.v]) (fun q => q.1 ≤ f.body.length) (fun q => q.1) (f.body.length, some ⟨bb, bo, none⟩, cap9) (Nat.le_refl _) ⟨rfl, rfl, rfl, rfl, by rw [List.drop_length]; rfl, rfl, rfl, trivial⟩ (by rw [List.drop_length]; show Ent _ [sl 3 (some ⟨bb, bo, none⟩) st.length cap9 (sgsV st.reverse), pts hb (hV hs), pts fb F.v, pts gb g.v]; exact ent_pick) ?_
            rintro ⟨j, a9, cap9⟩ hj
            have hj : j ≤ f.body.length := hj
            have hlen9 : (f.body.drop j ++ st).length ≤ 40 := by rw [List.length_append, List.length_drop]; omega
            show G C _ [(2, .pointer (some ⟨gb, 0, none⟩)), (1, .slice sa s.length scap), (6, .pointer (some ⟨fb, 0, none⟩)), (8, .pointer (some ⟨hb, 0, none⟩)), (9, .slice a9 (f.body.drop j ++ st).length cap9), (11, .slice f.a f.body.length f.cap), (13, .int .i64 ((j : Int) - 1))] [sl 3 a9 (f.body.drop j ++ st).length cap9 (sgsV (f.body.drop j ++ st).reverse), pts hb (hV hs), pts fb F.v, pts gb g.v]
            repeat (first | refine xst ?_ | refine xar ?_ | refine xop ?_ | refine xlen ?_ | refine xld rfl ?_ | refine xsto rfl ?_ | refine xno ?_ | refine xt ?_ | refine xf ?_ | refine xnu ?_)
            refine xd (q := (0 : Int) ≤ (j : Int) - 1) (fun h => ?_) (fun h => ?_)
            · obtain ⟨i, rfl⟩ : ∃ i, j = i + 1 := ⟨j - 1, by omega⟩
              have hil : i < f.body.length := by omega
              obtain ⟨fbb, fbo, hfa, hrb⟩ := hbf.some (by omega)
              rw [hfa]
              haveI := hrb
              have hel := sgsV_get hil
              have hd : f.body.drop i = f.body[i] :: f.body.drop (i + 1) := List.drop_eq_getElem_cons hil
              generalize f.body[i] = x at hel hd
              refine xE 13 (.int .i64 (i : Int)) rfl (congrArg (Value.int .i64) (by omega)) ?_
              repeat (first | refine xst ?_ | refine xar ?_ | refine xop ?_ | refine xlen ?_ | refine xld rfl ?_ | refine xsto rfl ?_ | refine xno ?_ | refine xt ?_ | refine xf ?_ | refine xnu ?_)
              refine xix ?_ (hk := hil)
              refine xldla rfl (i * 3) x.v rfl hel (by rw [sgsV_len]; show i * 3 + 3 ≤ _; omega) ?_
              refine xbsl fun b85 => ?_
              refine xrep 0 x.v rfl rfl ?_
              refine xapp (sgsV (f.body.drop (i + 1) ++ st).reverse) rfl (SrcOk.blk (ys := x.v) rfl (by exact Nat.le_refl 3) (by intro v hv; simp [Sg.v] at hv; rcases hv with rfl | rfl | rfl <;> rfl)) (by omega) fun a' cap' => ?_
              repeat (first | refine xst ?_ | refine xar ?_ | refine xop ?_ | refine xlen ?_ | refine xld rfl ?_ | refine xsto rfl ?_ | refine xno ?_ | refine xt ?_ | refine xf ?_ | refine xnu ?_)
              rw [← hfa]
              refine G.fin (i, a', cap') ⟨by show i ≤ _; omega, Nat.lt_succ_self _⟩ ⟨rfl, rfl, rfl, rfl, by rw [hd]; rfl, rfl, rfl, trivial⟩ ?_
              show Ent _ [sl 3 a' (f.body.drop i ++ st).length cap' (sgsV (f.body.drop i ++ st).reverse), pts hb (hV hs), pts fb F.v, pts gb g.v]
              rw [hd, List.cons_append, List.reverse_cons, sgsV_append, List.length_cons, show sgsV [x] = x.v by simp [sgsV]]
              exact ent_pick
            · obtain rfl : j = 0 := by omega
              repeat (first | refine xst ?_ | refine xar ?_ | refine xop ?_ | refine xlen ?_ | refine xld rfl ?_ | refine xsto rfl ?_ | refine xno ?_ | refine xt ?_ | refine xf ?_ | refine xnu ?_)
              exact G.fin (a9, cap9) trivial ⟨rfl, rfl, rfl, rfl, rfl, trivial⟩ (Ent.refl _)
          rintro ⟨a9, cap9⟩ _
          have hlen9 : (f.body ++ st).length = f.body.length + st.length := List.length_append
          show G C _ [(2, .pointer (some ⟨gb, 0, none⟩)), (1, .slice sa s.length scap), (6, .pointer (some ⟨fb, 0, none⟩)), (8, .pointer (some ⟨hb, 0, none⟩)), (9, .slice a9 (f.body ++ st).length cap9)] [sl 3 a9 (f.body ++ st).length cap9 (sgsV (f.body ++ st).reverse), pts hb (hV hs), pts fb F.v, pts gb g.v]
          repeat (first | refine xst ?_ | refine xar ?_ | refine xop ?_ | refine xlen ?_ | refine xld rfl ?_ | refine xsto rfl ?_ | refine xno ?_ | refine xt ?_ | refine xf ?_ | refine xnu ?_)
          refine xd (q := (32 : Int) < ((f.body ++ st).length : Int)) (fun h => ?_) (fun h => ?_)
          · rw [if_pos (by omega)] at hm
            repeat (first | refine xst ?_ | refine xar ?_ | refine xop ?_ | refine xlen ?_ | refine xld rfl ?_ | refine xsto rfl ?_ | refine xno ?_ | refine xt ?_ | refine xf ?_ | refine xnu ?_)
            refine xretp [] ?_
            exact (hpost 2 (Option.some.inj hm))
          · rw [if_neg (by omega)] at hm
            repeat (first | refine xst ?_ | refine xar ?_ | refine xop ?_ | refine xlen ?_ | refine xld rfl ?_ | refine xsto rfl ?_ | refine xno ?_ | refine xt ?_ | refine xf ?_ | refine xnu ?_)
            exact G.fin ⟨k, f.body ++ st, s, sa, scap, a9, cap9⟩ ⟨⟨hm, hss, fun t' h' => (List.mem_append.1 h').elim (hb16 t') (fun h' => h16 t' (List.mem_cons_of_mem _ h')), by show (f.body ++ st).length ≤ 32; omega, hsl⟩, Nat.lt_succ_self _⟩ ⟨rfl, rfl, rfl, rfl, rfl, trivial⟩ (Ent.refl _)
        | none =>
          rw [hc] at hm
          simp only at hm
          refine xE 68 (.tuple #[.slice none 0 0, .bool false]) rfl rfl ?_
          repeat (first | refine xst ?_ | refine xar ?_ | refine xop ?_ | refine xlen ?_ | refine xld rfl ?_ | refine xsto rfl ?_ | refine xno ?_ | refine xt ?_ | refine xf ?_ | refine xnu ?_)
          refine xix ?_ (hk := hm16)
          cases hnl : F.nl m with
          | false =>
            rw [hnl, if_pos rfl] at hm
            refine xld rfl ?_ (hv := (Fx.v_nl hok hm16).trans (by rw [hnl]))
            repeat (first | refine xst ?_ | refine xar ?_ | refine xop ?_ | refine xlen ?_ | refine xld rfl ?_ | refine xsto rfl ?_ | refine xno ?_ | refine xt ?_ | refine xf ?_ | refine xnu ?_)
            refine xretp [] ?_
            exact (hpost 0 (Option.some.inj hm))
          | true =>
            rw [hnl, if_neg (by decide)] at hm
            refine xld rfl ?_ (hv := (Fx.v_nl hok hm16).trans (by rw [hnl]))
            repeat (first | refine xst ?_ | refine xar ?_ | refine xop ?_ | refine xlen ?_ | refine xld rfl ?_ | refine xsto rfl ?_ | refine xno ?_ | refine xt ?_ | refine xf ?_ | refine xnu ?_)
            refine xix ?_ (hk := hm16)
            refine xEp 102 m rfl (by show 0 + m = m; omega) ?_
            refine xld rfl ?_ (hv := hV_get (by omega))
            refine xop ?_
            refine xop ?_
            refine xop ?_
            refine xst ?_
            refine xd (q := (32 : Int) < IntKind.i64.wrap ((st.length : Int) + hs.getD m 0)) (fun h => ?_) (fun h => ?_)
            · rw [if_pos h] at hm
              repeat (first | refine xst ?_ | refine xar ?_ | refine xop ?_ | refine xlen ?_ | refine xld rfl ?_ | refine xsto rfl ?_ | refine xno ?_ | refine xt ?_ | refine xf ?_ | refine xnu ?_)
              refine xretp [] ?_
              exact (hpost 2 (Option.some.inj hm))
            · rw [if_neg h] at hm
              repeat (first | refine xst ?_ | refine xar ?_ | refine xop ?_ | refine xlen ?_ | refine xld rfl ?_ | refine xsto rfl ?_ | refine xno ?_ | refine xt ?_ | refine xf ?_ | refine xnu ?_)
              exact G.fin ⟨k, st, s, sa, scap, some ⟨bb, bo, none⟩, cap9⟩ ⟨⟨hm, hss, fun t' h' => h16 t' (List.mem_cons_of_mem _ h'), by show st.length ≤ 32; omega, hsl⟩, Nat.lt_succ_self _⟩ ⟨rfl, rfl, rfl, rfl, rfl, trivial⟩ ent_pick
end Go.Proofs.YthlaacnjgdmakaaDoor
