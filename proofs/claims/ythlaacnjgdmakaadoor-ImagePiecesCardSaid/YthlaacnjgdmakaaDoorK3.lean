/- Part of the proof: Wy -/
import Derived.Test.YthlaacnjgdmakaaDoorK2
/- The closing, continued: from a contract that answers true and owns nothing to the row's own word. -/
namespace Go.W
open Go.ChangeShapes Go.WideShapes

section
variable {H : Type} {enc : TypeId × Value → H} {P : Program}
theorem trodAll_carry {w w' : World} {base : Nat} {sp : Nat → Bool} {held : Bool} : ∀ {ts : List TypeId} {vs : List Value} {ds : List (DataW H)} {ps : List MemPlace}, DataW.TrodAll enc P w base sp held ts vs ds ps → (∀ p ∈ ps, w.sameAt w' p) → DataW.TrodAll enc P w' base sp held ts vs ds ps
  | [], [], [], _, h, _ => h
  | _ :: _, _ :: _, _ :: _, _, ⟨p, q, ⟨n, h1⟩, h2, e⟩, hs => ⟨p, q, ⟨n, DataW.trod_carry n _ _ _ h1 (fun x hx => hs x (by rw [e]; exact List.mem_append_left _ hx))⟩, trodAll_carry h2 (fun x hx => hs x (by rw [e]; exact List.mem_append_right _ hx)), e⟩

theorem post_true {s : ChangeSpec} {f : Func} {apart fresh handsOn : Bool} {T : TypeId → Prop} (K : Kids P T) (hz : ∀ t e, T t → P.underlying t = some (.slice e) → 0 < P.cellsOf e) (hT : ∀ t ∈ f.params.toList, T t) {tb : TypeId} (hrt : f.resultTypes = #[tb]) (hb : P.underlying tb = some .bool)
    {W W' : World} {args : Array Value} {ds gs : List (DataW H)} {before : List MemPlace} (hW : DataW.Whole enc P f.params.toList s.vars apart W args.toList ds gs before) (hv : s.vars = [])
    (hs1 : (s.fn H (ds ++ gs)).results = [.lit (.bool true)]) (hs2 : (s.fn H (ds ++ gs)).args = ds) (hs3 : (s.fn H (ds ++ gs)).vars = [])
    (hk : ∀ b, b < W.heap.size → W'.heap[b]? = W.heap[b]?) (hos : W'.os = W.os) (hout : W'.output = W.output) : s.post enc P f apart fresh handsOn false W args (.bool true) W' := by
  have hlt := hW.lt
  have hsame : ∀ p ∈ before, W.sameAt W' p := by
    intro p hp
    have := hk _ (hlt p hp)
    cases p with
    | cell b o => show W'.cell? ⟨b, o, none⟩ = W.cell? ⟨b, o, none⟩; simp only [World.cell?]; rw [show W'.heap[b]? = W.heap[b]? from this]
    | map b => exact this
  have hW' := hW
  obtain ⟨p, q, hA, hV, rfl, _, _⟩ := hW'
  rw [hv] at hV
  obtain ⟨rfl, rfl⟩ := trodVars_none hV
  refine ⟨ds, [], p ++ [], [], p, [], hW, ?_, ?_, ?_, ?_, fun h => by cases h⟩
  · rw [hs1, hrt]
    exact trodAll_mk1 ⟨1, by simp [DataW.trod, hb, Value.cells]⟩
  · rw [hs2]
    refine DataW.TrodAll.respare K hz hT (trodAll_carry hA (fun x hx => hsame x (by simpa using hx))) (fun x hx => ?_)
    simpa using hlt x (by simpa using hx)
  · rw [hs3, hv]; rfl
  · exact (World.keptBut_refl W _).congr hos hout hk

/-- A law that answers true, and owns nothing. -/
theorem calls_true {s : ChangeSpec} {fid : FuncId} {f : Func} {apart fresh handsOn : Bool} {T : TypeId → Prop} (K : Kids P T) (hz : ∀ t e, T t → P.underlying t = some (.slice e) → 0 < P.cellsOf e) (hT : ∀ t ∈ f.params.toList, T t) {tb : TypeId} (hrt : f.resultTypes = #[tb])
    (hb : P.underlying tb = some .bool) {W : World} {args : List Value} {ds gs : List (DataW H)} {before : List MemPlace} (hW : DataW.Whole enc P f.params.toList s.vars apart W args ds gs before) (hv : s.vars = [])
    (hs1 : (s.fn H (ds ++ gs)).results = [.lit (.bool true)]) (hs2 : (s.fn H (ds ++ gs)).args = ds) (hs3 : (s.fn H (ds ++ gs)).vars = [])
    {rd : List HProp} (hF : Fun P fid args rd [] fun v H => v = .bool true ∧ H = []) (hrd : Rd rd W fun _ => False) :
    Calls P fid args.toArray W fun e W' => ∃ v, e = .returned v ∧ s.post enc P f apart fresh handsOn false W args.toArray v W' := by
  refine (hF.calls W (fun _ => False) hrd trivial (fun _ h => h.elim)).mono ?_
  rintro e W' ⟨v, H', F', rfl, ⟨rfl, rfl⟩, _, hf⟩
  exact ⟨_, rfl, post_true K hz hT hrt hb (by simpa using hW) hv hs1 hs2 hs3 (fun b hb => hf.kept b hb (fun h => h)) hf.os hf.out⟩
end

theorem Rd.cons {r : HProp} {rd : List HProp} {w : World} {F : Foot} (h : ∃ S : Foot, r.holds w S ∧ (∀ b, S b → b < w.heap.size) ∧ ∀ b, S b → ¬ F b) (hs : Rd rd w F) : Rd (r :: rd) w F := by
  intro x hx
  rcases List.mem_cons.1 hx with rfl | hx
  · exact h
  · exact hs x hx
theorem rd_blk {w : World} {g : Nat} {l : List Value} (h : blkAt w g l) : ∃ S : Foot, (rdb g l).holds w S ∧ (∀ b, S b → b < w.heap.size) ∧ ∀ b, S b → ¬ False :=
  ⟨(· = g), ⟨rfl, h⟩, fun b hb => by subst hb; exact h.lt, fun _ _ h => h⟩
theorem rd_view {w : World} {sz : Nat} {a : Option Addr} {n cap : Nat} {xs : List Value} (h : viewR (fun b l => blkAt w b l) sz a n cap xs) : ∃ S : Foot, (slR sz a n cap xs).holds w S ∧ (∀ b, S b → b < w.heap.size) ∧ ∀ b, S b → ¬ False :=
  ⟨(· < w.heap.size), viewR.mono (fun _ _ hb => ⟨hb.lt, hb⟩) h, fun _ h => h, fun _ _ h => h⟩

/-- The room of a slice that came in. -/
theorem weigh_slice {H : Type} {enc : TypeId × Value → H} {P : Program} {w : World} {held : Bool} {t e : TypeId} {fuel : Nat} {a : Option Addr} {n cap : Nat} {x : DataW H × List MemPlace} (ht : P.underlying t = some (.slice e))
    (h : DataW.trod enc P w 0 (fun _ => true) held fuel t [.slice a n cap] = some x) (hw : (x.1.weights P t).all (· ≤ reachBytes) = true) : cap * P.bytesOf e ≤ 140737488351232 := by
  rcases Deep.open_slice ht h with ⟨hc, rfl⟩ | ⟨a', len, cap', m, k, D, Pl, hc, _, hl, _, hmm, hx, _⟩
  · simp at hc
    obtain ⟨_, _, rfl⟩ := hc
    omega
  · simp at hc
    obtain ⟨_, rfl, rfl⟩ := hc
    simp only [if_true] at hmm
    subst hmm
    subst hx
    simp only [DataW.weights, ht, List.all_cons, Bool.and_eq_true, decide_eq_true_eq, List.length_map, List.length_range] at hw
    have := hw.1
    rw [show n + (m - n) = m by omega] at this
    exact this

/-! ## The listed variables -/
theorem laidVars_get {P : Program} {w : World} : ∀ {laid : List (String × DataW Unit)} {ps : List MemPlace}, DataW.LaidVars P w laid ps → ∀ {i : Nat} {n : String} {d : DataW Unit}, laid[i]? = some (n, d) →
    ∃ g t cs fuel p, P.globalNamed n = some g ∧ (P.globals[g]?).map (·.type) = some t ∧ w.var? P n = some cs ∧ DataW.trod (fun _ => ()) P w 0 (fun _ => true) false fuel t cs.toList = some (d, p)
  | [], _, _, i, n, d, hi => by simp at hi
  | (n', d') :: r, ps, ⟨g, t, cs, fuel, p, q, h1, h2, h3, h4, h5, _⟩, i, n, d, hi => by
    cases i with
    | zero =>
      simp only [List.getElem?_cons_zero, Option.some.injEq, Prod.mk.injEq] at hi
      obtain ⟨rfl, rfl⟩ := hi
      exact ⟨g, t, cs, fuel, p, h1, h2, h3, h4⟩
    | succ i => exact laidVars_get h5 (by simpa using hi)
theorem blk_of_var {P : Program} {w : World} {name : String} {g : Nat} {l : List Value} (hg : P.globalNamed name = some g) (h : w.var? P name = some l.toArray) : blkAt w g l := by
  simp only [World.var?, hg, Option.bind_some] at h
  split at h
  · rename_i cs T fr hb
    simp only [Option.some.injEq] at h
    subst h
    exact ⟨T, fr, hb⟩
  · cases h
theorem laid_tab {P : Program} {w : World} {laid : List (String × DataW Unit)} (h : laidMet P laid w) (i : Nat) {name : String} {k : IntKind} {zs : List Int} (hi : laid[i]? = some (name, Lib.tabData k zs)) {g : Nat} {t e : TypeId} {n : Nat}
    (hg : P.globalNamed name = some g) (hty : (P.globals[g]?).map (·.type) = some t) (ht : P.underlying t = some (.array n e)) (he : P.underlying e = some (.int k)) (hce : P.cellsOf e = 1) (hct : P.cellsOf t = n) : blkAt w g (zs.map fun z => Value.int k z) := by
  obtain ⟨ps, hl, _⟩ := h
  obtain ⟨g', t', cs, fuel, p, hg', ht', hvar, hd⟩ := laidVars_get hl hi
  obtain rfl := Option.some.inj (hg.symm.trans hg')
  obtain rfl := Option.some.inj (hty.symm.trans ht')
  have := Lib.cells_of_tab ht he hce hct hd
  refine blk_of_var hg ?_
  rw [hvar, ← this]
end Go.W
