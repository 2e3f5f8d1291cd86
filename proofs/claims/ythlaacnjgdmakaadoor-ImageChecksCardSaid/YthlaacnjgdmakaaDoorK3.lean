/- Part of the proof: Wx, Wy -/
import Derived.Test.YthlaacnjgdmakaaDoorK2
import Derived.ProofKit
import Derived.Deep.Slices
import Derived.OpenShut
import Derived.Deep.DeepHandedRow
import Derived.Lib.LaidTab
/- The closing: what a reading of data says of the cells; a law that answers true and leaves what was there as it was. -/
namespace Go.W
open Go.ChangeShapes Go.WideShapes

/-- What a type's cells hold. -/
def Fits (tt : TypeId → Option TI) (w : World) : Nat → TypeId → List Value → Prop
  | 0, _, _ => True
  | d + 1, t, cs => match tt t with
    | none => True
    | some i => match i.k with
      | .int k => ∃ n, cs = [.int k n] ∧ (Lit.int k n).wf = true
      | .bool => ∃ b, cs = [.bool b]
      | .string => ∃ s : ByteArray, cs = [.string s] ∧ s.size ≤ maxLen
      | .slice e => ∃ a n cap, cs = [.slice a n cap] ∧ n ≤ cap ∧ cap ≤ maxLen ∧ match tt e with
        | none => True
        | some j => 0 < j.size → ∃ xs, viewR (fun b l => blkAt w b l) j.size a n cap xs ∧ ∀ k, k < n → Fits tt w d e ((xs.drop (k * j.size)).take j.size)
      | .str fs => cs.length = i.size ∧ ∀ q ∈ fs, match tt q.2 with
        | none => True
        | some j => Fits tt w d q.2 ((cs.drop q.1).take j.size)
      | .arr n e => cs.length = i.size ∧ match tt e with
        | none => True
        | some j => ∀ k, k < n → Fits tt w d e ((cs.drop (k * j.size)).take j.size)
      | _ => True

theorem cellsOf_eq {P : Program} {t : TypeId} {i : TI} (h : TIok P t i) : P.cellsOf t = i.size := by
  obtain ⟨j, h1, h2, _⟩ := h.info
  simp [Program.cellsOf, h1, h2]

/-- A row of cells, laid side by side. -/
theorem view_of_cells {w : World} {a : Addr} {n cap sz : Nat} (hsz : 0 < sz) (hn : n ≤ cap) (h : ∀ i, i < cap → ∃ cs, w.cells? 0 (a.add (i * sz)) sz = some cs) :
    ∃ xs, viewR (fun b l => blkAt w b l) sz (some a) n cap xs ∧ ∀ k, k < n → w.cells? 0 (a.add (k * sz)) sz = some ((xs.drop (k * sz)).take sz) := by
  rcases Nat.eq_zero_or_pos cap with h0 | h0
  · subst h0
    obtain rfl : n = 0 := by omega
    exact ⟨[], .inr ⟨rfl, rfl, rfl⟩, fun k hk => by omega⟩
  obtain ⟨b, off, spot⟩ := a
  have hcell : ∀ i j, i < cap → j < sz → ∃ v, w.cell? ((⟨b, off, spot⟩ : Addr).add (i * sz + j)) = some v := by
    intro i j hi hj
    obtain ⟨cs, hcs⟩ := h i hi
    obtain ⟨_, hl, hc⟩ := World.cells?_some hcs
    have := hc j hj
    have e : ((⟨b, off, spot⟩ : Addr).add (i * sz)).add j = (⟨b, off, spot⟩ : Addr).add (i * sz + j) := by
      unfold Addr.add
      by_cases h1 : i * sz = 0 <;> by_cases h2 : j = 0 <;> simp [h1, h2]
      omega
    rw [e] at this
    rw [this, List.getElem?_eq_getElem (by omega)]
    exact ⟨_, rfl⟩
  obtain ⟨v0, hv0⟩ := hcell 0 0 h0 hsz
  obtain ⟨c, T, fr, hb, hsp⟩ : ∃ c T fr, w.heap[b]? = some (.cells c T fr) ∧ spot = none := by
    have e0 : (⟨b, off, spot⟩ : Addr).add (0 * sz + 0) = ⟨b, off, spot⟩ := by simp [Addr.add]
    rw [e0] at hv0
    unfold World.cell? at hv0
    split at hv0
    · rename_i c T fr hb
      refine ⟨c, T, fr, hb, ?_⟩
      cases spot with
      | none => rfl
      | some s => simp at hv0
    · cases hv0
  subst hsp
  have hlt : ∀ m, m < cap * sz → off + m < c.size := by
    intro m hm
    obtain ⟨v, hv⟩ := hcell (m / sz) (m % sz) (Nat.div_lt_of_lt_mul (by rw [Nat.mul_comm]; exact hm)) (Nat.mod_lt _ hsz)
    rw [Nat.div_add_mod'] at hv
    rw [Addr.add_none] at hv
    simp only [World.cell?, hb] at hv
    rcases Nat.lt_or_ge (off + m) c.size with h' | h'
    · exact h'
    · simp [Array.getElem?_eq_none h'] at hv
  have hpos : 0 < cap * sz := Nat.mul_pos h0 hsz
  have hroom : off + cap * sz ≤ c.size := by have := hlt (cap * sz - 1) (by omega); omega
  have hns : n * sz ≤ cap * sz := Nat.mul_le_mul_right _ hn
  refine ⟨(c.toList.drop off).take (n * sz), .inl ⟨?_, hn, rfl, c.toList.take off, c.toList.drop (off + n * sz), ?_, ⟨T, fr, ?_⟩, ?_⟩, fun k hk => ?_⟩
  · simp; omega
  · simp; omega
  · rw [hb]
    congr 2
    apply Array.toList_inj.1
    show c.toList = _
    have e2 : c.toList.drop (off + n * sz) = (c.toList.drop off).drop (n * sz) := by rw [List.drop_drop]
    rw [e2, List.take_append_drop, List.take_append_drop]
  · simp; omega
  · obtain ⟨cs, hcs⟩ := h k (by omega)
    rw [hcs]
    obtain ⟨_, hl, hc⟩ := World.cells?_some hcs
    congr 1
    have hks : k * sz + sz ≤ n * sz := by have := Nat.mul_le_mul_right sz (show k + 1 ≤ n by omega); rw [Nat.add_mul, Nat.one_mul] at this; exact this
    apply List.ext_getElem?
    intro i
    by_cases hi : i < sz
    · rw [← hc i hi, Addr.add_none, Addr.add_none, List.getElem?_take_of_lt hi, List.getElem?_drop, List.getElem?_take_of_lt (by omega), List.getElem?_drop]
      simp [World.cell?, hb, Nat.add_assoc]
    · rw [List.getElem?_eq_none (by omega), List.getElem?_eq_none (by simp; omega)]

theorem fits {H : Type} {enc : TypeId × Value → H} {P : Program} {tt : TypeId → Option TI} (ok : ∀ t i, tt t = some i → TIok P t i) {w : World} {held : Bool} :
    ∀ (d fuel : Nat) (t : TypeId) (cs : List Value) (x : DataW H × List MemPlace), DataW.trod enc P w 0 (fun _ => true) held fuel t cs = some x → Fits tt w d t cs
  | 0, _, _, _, _, _ => trivial
  | d + 1, fuel, t, cs, x, h => by
    unfold Fits
    split
    · trivial
    · rename_i i ht
      have hd := (ok t i ht).desc
      have hsz := cellsOf_eq (ok t i ht)
      split
      · rename_i k hk
        rw [hk] at hd
        obtain ⟨n, h1, _, h2⟩ := DataW.trod_int hd h
        exact ⟨n, h1, h2⟩
      · rename_i hk
        rw [hk] at hd
        obtain ⟨b, h1, _⟩ := DataW.trod_bool hd h
        exact ⟨b, h1⟩
      · rename_i hk
        rw [hk] at hd
        obtain ⟨s, h1, _, h2⟩ := DataW.trod_string hd h
        exact ⟨s, h1, h2⟩
      · rename_i e hk
        rw [hk] at hd
        rcases Deep.open_slice hd h with ⟨rfl, _⟩ | ⟨a, len, cap, m, n, D, Pl, rfl, _, hl, hm, hmm, _, hx⟩
        · refine ⟨none, 0, 0, rfl, Nat.le_refl _, Nat.zero_le _, ?_⟩
          split
          · trivial
          · exact fun _ => ⟨[], .inr ⟨rfl, rfl, rfl⟩, fun k hk => by omega⟩
        · refine ⟨some a, len, cap, rfl, hl, hm, ?_⟩
          split
          · trivial
          · rename_i j hj
            intro hpos
            have hce := cellsOf_eq (ok e j hj)
            simp only [if_true] at hmm
            subst hmm
            rw [hce] at hx
            obtain ⟨xs, hv, hc⟩ := view_of_cells (w := w) (a := a) (n := len) (cap := m) hpos hl (fun i hi => by obtain ⟨cs', h1, _⟩ := hx i hi; exact ⟨cs', h1⟩)
            refine ⟨xs, hv, fun k hk => ?_⟩
            obtain ⟨cs', h1, h2⟩ := hx k (by omega)
            have := Option.some.inj (h1.symm.trans (hc k hk))
            subst this
            exact fits ok d n e _ _ h2
      · rename_i fs hk
        rw [hk] at hd
        obtain ⟨l, hl, hmap⟩ := hd
        obtain ⟨xs, n, _, _, hlen, hxl, hf⟩ := DataW.trod_struct hl h
        refine ⟨by rw [hlen, hsz], fun q hq => ?_⟩
        split
        · trivial
        · rename_i j hj
          rw [← hmap] at hq
          obtain ⟨f, hfm, rfl⟩ := List.mem_map.1 hq
          obtain ⟨ix, hix, hfe⟩ := List.getElem_of_mem hfm
          have hce := cellsOf_eq (ok f.type j hj)
          have := hf ix f (by simp [List.getElem?_eq_getElem hix, hfe])
          rw [hce] at this
          obtain ⟨y, hy⟩ : ∃ y, xs[ix]? = some y := ⟨xs[ix]'(by rw [hxl]; simpa using hix), List.getElem?_eq_getElem _⟩
          rw [hy] at this
          exact fits ok d n f.type _ _ this
      · rename_i n e hk
        rw [hk] at hd
        obtain ⟨xs, m, _, _, hlen, hxl, hf⟩ := DataW.trod_array hd h
        refine ⟨by rw [hlen, hsz], ?_⟩
        split
        · trivial
        · rename_i j hj
          intro k hk
          have hce := cellsOf_eq (ok e j hj)
          have := hf k hk
          rw [hce] at this
          obtain ⟨y, hy⟩ : ∃ y, xs[k]? = some y := ⟨xs[k]'(by rw [hxl]; exact hk), List.getElem?_eq_getElem _⟩
          rw [hy] at this
          exact fits ok d m e _ _ this
      · trivial
end Go.W

/- The closing, continued: from a contract that answers true and owns nothing to the row's own word. -/
namespace Go.W
open Go.ChangeShapes Go.WideShapes

section
variable {H : Type} {enc : TypeId × Value → H} {P : Program}
theorem trodAll_carry {w w' : World} {base : Nat} {sp : Nat → Bool} {held : Bool} : ∀ {ts : List TypeId} {vs : List Value} {ds : List (DataW H)} {ps : List MemPlace}, DataW.TrodAll enc P w base sp held ts vs ds ps → (∀ p ∈ ps, w.sameAt w' p) → DataW.TrodAll enc P w' base sp held ts vs ds ps
  | [], [], [], _, h, _ => h
  | _ :: _, _ :: _, _ :: _, _, ⟨p, q, ⟨n, h1⟩, h2, e⟩, hs => ⟨p, q, ⟨n, DataW.trod_carry n _ _ _ h1 (fun x hx => hs x (by rw [e]; exact List.mem_append_left _ hx))⟩, trodAll_carry h2 (fun x hx => hs x (by rw [e]; exact List.mem_append_right _ hx)), e⟩

theorem post_true {s : ChangeSpec} {f : Func} {apart fresh handsOn : Bool} {T : TypeId → Prop} (K : Kids P T) (hz : ∀ t e, T t → P.underlying t = some (.slice e) → 0 < P.cellsOf e) (hT : ∀ t ∈ f.params.toList, T t) {tb : TypeId} (hrt : f.resultTypes = #[tb]) (hb : P.underlying tb = some .bool)
    {W W' : World} {args : Array Value} {ds gs : List (DataW H)} {before : List MemPlace} (hW : DataW.Whole enc P f.params.toList s.vars apart W args.toList ds gs before) (hv : s.vars = [])
    (hs1 : (s.fn H (ds ++ gs)).results = [.lit (.bool true)]) (hs2 : (s.fn H (ds ++ gs)).args = ds) (hs3 : (s.fn H (ds ++ gs)).vars = [])
    (hk : ∀ b, b < W.heap.size → W'.heap[b]? = W.heap[b]?) (hos : W'.os = W.os) (hout : W'.output = W.output) : s.post enc P f apart fresh handsOn false W args (.bool true) W' := by
  have hlt := hW.lt
  have hsame : ∀ p ∈ before, W.sameAt W' p := by
    intro p hp
    have := hk _ (hlt p hp)
    cases p with
    | cell b o => show W'.cell? ⟨b, o, none⟩ = W.cell? ⟨b, o, none⟩; simp only [World.cell?]; rw [show W'.heap[b]? = W.heap[b]? from this]
    | map b => exact this
  have hW' := hW
  obtain ⟨p, q, hA, hV, rfl, _, _⟩ := hW'
  rw [hv] at hV
  obtain ⟨rfl, rfl⟩ := trodVars_none hV
  refine ⟨ds, [], p ++ [], [], p, [], hW, ?_, ?_, ?_, ?_, fun h => by cases h⟩
  · rw [hs1, hrt]
    exact trodAll_mk1 ⟨1, by simp [DataW.trod, hb, Value.cells]⟩
  · rw [hs2]
    refine DataW.TrodAll.respare K hz hT (trodAll_carry hA (fun x hx => hsame x (by simpa using hx))) (fun x hx => ?_)
    simpa using hlt x (by simpa using hx)
  · rw [hs3, hv]; rfl
  · exact (World.keptBut_refl W _).congr hos hout hk

/-- A law that answers true, and owns nothing. -/
theorem calls_true {s : ChangeSpec} {fid : FuncId} {f : Func} {apart fresh handsOn : Bool} {T : TypeId → Prop} (K : Kids P T) (hz : ∀ t e, T t → P.underlying t = some (.slice e) → 0 < P.cellsOf e) (hT : ∀ t ∈ f.params.toList, T t) {tb : TypeId} (hrt : f.resultTypes = #[tb])
    (hb : P.underlying tb = some .bool) {W : World} {args : List Value} {ds gs : List (DataW H)} {before : List MemPlace} (hW : DataW.Whole enc P f.params.toList s.vars apart W args ds gs before) (hv : s.vars = [])
    (hs1 : (s.fn H (ds ++ gs)).results = [.lit (.bool true)]) (hs2 : (s.fn H (ds ++ gs)).args = ds) (hs3 : (s.fn H (ds ++ gs)).vars = [])
    {rd : List HProp} (hF : Fun P fid args rd [] fun v H => v = .bool true ∧ H = []) (hrd : Rd rd W fun _ => False) :
    Calls P fid args.toArray W fun e W' => ∃ v, e = .returned v ∧ s.post enc P f apart fresh handsOn false W args.toArray v W' := by
  refine (hF.calls W (fun _ => False) hrd trivial (fun _ h => h.elim)).mono ?_
  rintro e W' ⟨v, H', F', rfl, ⟨rfl, rfl⟩, _, hf⟩
  exact ⟨_, rfl, post_true K hz hT hrt hb (by simpa using hW) hv hs1 hs2 hs3 (fun b hb => hf.kept b hb (fun h => h)) hf.os hf.out⟩
end

theorem Rd.cons {r : HProp} {rd : List HProp} {w : World} {F : Foot} (h : ∃ S : Foot, r.holds w S ∧ (∀ b, S b → b < w.heap.size) ∧ ∀ b, S b → ¬ F b) (hs : Rd rd w F) : Rd (r :: rd) w F := by
  intro x hx
  rcases List.mem_cons.1 hx with rfl | hx
  · exact h
  · exact hs x hx
theorem rd_blk {w : World} {g : Nat} {l : List Value} (h : blkAt w g l) : ∃ S : Foot, (rdb g l).holds w S ∧ (∀ b, S b → b < w.heap.size) ∧ ∀ b, S b → ¬ False :=
  ⟨(· = g), ⟨rfl, h⟩, fun b hb => by subst hb; exact h.lt, fun _ _ h => h⟩
theorem rd_view {w : World} {sz : Nat} {a : Option Addr} {n cap : Nat} {xs : List Value} (h : viewR (fun b l => blkAt w b l) sz a n cap xs) : ∃ S : Foot, (slR sz a n cap xs).holds w S ∧ (∀ b, S b → b < w.heap.size) ∧ ∀ b, S b → ¬ False :=
  ⟨(· < w.heap.size), viewR.mono (fun _ _ hb => ⟨hb.lt, hb⟩) h, fun _ h => h, fun _ _ h => h⟩

/-- The room of a slice that came in. -/
theorem weigh_slice {H : Type} {enc : TypeId × Value → H} {P : Program} {w : World} {held : Bool} {t e : TypeId} {fuel : Nat} {a : Option Addr} {n cap : Nat} {x : DataW H × List MemPlace} (ht : P.underlying t = some (.slice e))
    (h : DataW.trod enc P w 0 (fun _ => true) held fuel t [.slice a n cap] = some x) (hw : (x.1.weights P t).all (· ≤ reachBytes) = true) : cap * P.bytesOf e ≤ 140737488351232 := by
  rcases Deep.open_slice ht h with ⟨hc, rfl⟩ | ⟨a', len, cap', m, k, D, Pl, hc, _, hl, _, hmm, hx, _⟩
  · simp at hc
    obtain ⟨_, _, rfl⟩ := hc
    omega
  · simp at hc
    obtain ⟨_, rfl, rfl⟩ := hc
    simp only [if_true] at hmm
    subst hmm
    subst hx
    simp only [DataW.weights, ht, List.all_cons, Bool.and_eq_true, decide_eq_true_eq, List.length_map, List.length_range] at hw
    have := hw.1
    rw [show n + (m - n) = m by omega] at this
    exact this

/-! ## The listed variables -/
theorem laidVars_get {P : Program} {w : World} : ∀ {laid : List (String × DataW Unit)} {ps : List MemPlace}, DataW.LaidVars P w laid ps → ∀ {i : Nat} {n : String} {d : DataW Unit}, laid[i]? = some (n, d) →
    ∃ g t cs fuel p, P.globalNamed n = some g ∧ (P.globals[g]?).map (·.type) = some t ∧ w.var? P n = some cs ∧ DataW.trod (fun _ => ()) P w 0 (fun _ => true) false fuel t cs.toList = some (d, p)
  | [], _, _, i, n, d, hi => by simp at hi
  | (n', d') :: r, ps, ⟨g, t, cs, fuel, p, q, h1, h2, h3, h4, h5, _⟩, i, n, d, hi => by
    cases i with
    | zero =>
      simp only [List.getElem?_cons_zero, Option.some.injEq, Prod.mk.injEq] at hi
      obtain ⟨rfl, rfl⟩ := hi
      exact ⟨g, t, cs, fuel, p, h1, h2, h3, h4⟩
    | succ i => exact laidVars_get h5 (by simpa using hi)
theorem blk_of_var {P : Program} {w : World} {name : String} {g : Nat} {l : List Value} (hg : P.globalNamed name = some g) (h : w.var? P name = some l.toArray) : blkAt w g l := by
  simp only [World.var?, hg, Option.bind_some] at h
  split at h
  · rename_i cs T fr hb
    simp only [Option.some.injEq] at h
    subst h
    exact ⟨T, fr, hb⟩
  · cases h
theorem laid_tab {P : Program} {w : World} {laid : List (String × DataW Unit)} (h : laidMet P laid w) (i : Nat) {name : String} {k : IntKind} {zs : List Int} (hi : laid[i]? = some (name, Lib.tabData k zs)) {g : Nat} {t e : TypeId} {n : Nat}
    (hg : P.globalNamed name = some g) (hty : (P.globals[g]?).map (·.type) = some t) (ht : P.underlying t = some (.array n e)) (he : P.underlying e = some (.int k)) (hce : P.cellsOf e = 1) (hct : P.cellsOf t = n) : blkAt w g (zs.map fun z => Value.int k z) := by
  obtain ⟨ps, hl, _⟩ := h
  obtain ⟨g', t', cs, fuel, p, hg', ht', hvar, hd⟩ := laidVars_get hl hi
  obtain rfl := Option.some.inj (hg.symm.trans hg')
  obtain rfl := Option.some.inj (hty.symm.trans ht')
  have := Lib.cells_of_tab ht he hce hct hd
  refine blk_of_var hg ?_
  rw [hvar, ← this]
end Go.W
