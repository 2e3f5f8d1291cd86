/- Part of the proof: Wz, Wgd, Wge, Wgf, Wgh, Wgb, Wx, Wy -/
import Derived.Test.YtdalmiacjicgpaaGreatDoorK2
import Derived.ProofKit
import Derived.Deep.Slices
import Derived.OpenShut
import Derived.Deep.DeepHandedRow
import Derived.Lib.LaidTab
/- Regions that draw their order: calls that only reckon, in whatever order; an element of a slice. -/
namespace Go.W
theorem offAt_one (off k : Nat) : offAt off k 1 = off + k := by rw [offAt_eq]; omega
section
variable {p : Pg} {fn : Func} {rd : List HProp} {post : Post} {C : Ctx p fn rd post} {all : Array Oper} {l : List Oper} {K : List It} {L : Env} {H : List HProp}

theorem hasS_none : ∀ {L : Env} {d : Nat}, hasS L d = false → look L d = none
  | [], _, _ => rfl
  | (k, v) :: L, d, h => by
    simp only [hasS] at h
    simp only [look]
    cases hb : Nat.beq d k with
    | true => rw [hb] at h; cases h
    | false => rw [hb] at h; simp only [cond_false] at h ⊢; exact hasS_none h
theorem look_ext {L : Env} {d t : Nat} {u v : Value} (hd : hasS L d = false) (h : look L t = some v) : look ((d, u) :: L) t = some v := by
  simp only [look]
  cases hb : Nat.beq t d with
  | true =>
    have := beq_true hb
    subst this
    rw [hasS_none hd] at h; cases h
  | false => exact h
theorem evalO_ext {L : Env} {d : Nat} {u v : Value} {x : Operand} (hd : hasS L d = false) (h : evalO L x = some v) : evalO ((d, u) :: L) x = some v := by
  cases x with
  | tmp t => exact look_ext hd h
  | _ => exact h
theorem evalOs_ext {L : Env} {d : Nat} {u : Value} (hd : hasS L d = false) : ∀ {xs : List Operand} {vs : List Value}, evalOs L xs = some vs → evalOs ((d, u) :: L) xs = some vs
  | [], _, h => h
  | x :: xs, vs, h => by
    simp only [evalOs] at h ⊢
    cases hx : evalO L x with
    | none => simp [hx] at h
    | some v =>
      cases hs : evalOs L xs with
      | none => simp [hx, hs] at h
      | some r => simp only [hx, hs] at h; simp only [evalO_ext hd hx, evalOs_ext hd hs]; exact h
theorem callO_ext {L : Env} {d : Nat} {u : Value} {o : Op} {r : FuncId × List Value} (hd : hasS L d = false) (h : callO L o = some r) : callO ((d, u) :: L) o = some r := by
  unfold callO at h ⊢
  split at h
  · rename_i x xs ats
    cases hx : evalO L x with
    | none => simp [hx] at h
    | some v =>
      cases hs : evalOs L xs.toList with
      | none => simp [hx, hs] at h
      | some vs => simp only [hx, hs] at h; simp only [evalO_ext hd hx, evalOs_ext hd hs]; exact h
  · cases h

/-- A call that only reckons. -/
structure PCall (p : Pg) (fn : Func) (all : Array Oper) (L : Env) (j : Nat) (d : Tmp) (v : Value) : Prop where
  ok : ∃ o f args, all[j]? = some o ∧ callO L o.op = some (f, args) ∧ o.guard = none ∧ o.dst = some d ∧ Nat.blt d fn.ntmps = true ∧ isEff o.op = true ∧ Fun p.P f args [] [] fun u H' => u = v ∧ H' = []
theorem PCall.mk' {j : Nat} {o : Oper} {d : Tmp} {v : Value} {f : FuncId} {args : List Value} (hc : Fun p.P f args [] [] fun u H' => u = v ∧ H' = []) (ho : all[j]? = some o := by rfl) (hop : callO L o.op = some (f, args) := by rfl) (hg : o.guard = none := by rfl)
    (hd : o.dst = some d := by rfl) (hn : Nat.blt d fn.ntmps = true := by rfl) (he : isEff o.op = true := by rfl) : PCall p fn all L j d v := ⟨o, f, args, ho, hop, hg, hd, hn, he, hc⟩
theorem PCall.ext {j : Nat} {d d' : Tmp} {v u : Value} (h : PCall p fn all L j d v) (hd : hasS L d' = false) : PCall p fn all ((d', u) :: L) j d v := by
  obtain ⟨o, f, args, h1, h2, h3⟩ := h.ok
  exact ⟨o, f, args, h1, callO_ext hd h2, h3⟩
theorem PCall.step {j f : Nat} {d : Tmp} {v : Value} {listed listed' : List Bool} {J J' : Held} (h : PCall p fn all L j d v) (hset : setL j listed = some listed') (hk : keepJ all j J = some J')
    (g : G C (anyI C all f listed' J' K :: K) ((d, v) :: L) H) : ∃ o listed' J', all[j]? = some o ∧ setL j listed = some listed' ∧ ((isEff o.op = true ∧ keepJ all j J = some J') ∨ J' = J) ∧ G C (.ops all [o] :: anyI C all f listed' J' K :: K) L H := by
  obtain ⟨o, fc, args, h1, h2, h3, h4, h5, h6, h7⟩ := h.ok
  refine ⟨o, listed', J', h1, hset, .inl ⟨h6, hk⟩, ?_⟩
  refine xcall h7 ?_ h2 (by unfold guardV; rw [h3]) h4 h5
  rintro u H' ⟨rfl, rfl⟩
  exact G.st rfl g
theorem G.swapL {a b : Tmp} {u v : Value} (hne : Nat.beq a b = false) (g : G C K ((a, u) :: (b, v) :: L) H) : G C K ((b, v) :: (a, u) :: L) H := by
  refine fun act w F ha hs hf => g act w F ⟨ha.size, ha.defers, fun t x ht => ha.cell t x ?_⟩ hs hf
  simp only [look] at ht ⊢
  cases h1 : Nat.beq t a with
  | true =>
    have e := beq_true h1
    subst e
    rw [hne]
    rw [h1] at ht
    simpa using ht
  | false =>
    rw [h1] at ht
    simpa using ht

/-- Two calls that only reckon, both ready. -/
theorem xdpc2 {f : Nat} (i j : Nat) {di dj : Tmp} {vi vj : Value} {listed l1 l2 l3 : List Bool} {J J1 J2 J3 : Held} (ci : PCall p fn all L i di vi) (cj : PCall p fn all L j dj vj)
    (g : G C (anyI C all f l3 J3 K :: K) ((dj, vj) :: (di, vi) :: L) H) [hj : JOk C H J] [hj1 : JOk C H J1] [hj2 : JOk C H J2]
    (hi : hasS L di = false := by rfl) (hjs : hasS L dj = false := by rfl) (hne : Nat.beq dj di = false := by rfl)
    (hr : Region.ready .any all listed.toArray = [i, j] := by kernel_rfl) (s1 : setL i listed = some l1 := by rfl) (s2 : setL j listed = some l2 := by rfl) (k1 : keepJ all i J = some J1 := by rfl) (k2 : keepJ all j J = some J2 := by rfl)
    (hr1 : Region.ready .any all l1.toArray = [j] := by kernel_rfl) (hr2 : Region.ready .any all l2.toArray = [i] := by kernel_rfl) (s3 : setL j l1 = some l3 := by rfl) (s4 : setL i l2 = some l3 := by rfl) (k3 : keepJ all j J1 = some J3 := by rfl) (k4 : keepJ all i J2 = some J3 := by rfl) :
    G C (anyI C all (f + 1 + 1) listed J K :: K) L H := by
  refine G.dacts hr fun q hq => ?_
  rcases List.mem_cons.1 hq with rfl | hq
  · refine ci.step s1 k1 (G.dacts hr1 fun r hr => ?_)
    obtain rfl : r = j := by simpa using hr
    exact (cj.ext hi).step s3 k3 g
  · obtain rfl : q = j := by simpa using hq
    refine cj.step s2 k2 (G.dacts hr2 fun r hr => ?_)
    obtain rfl : r = i := by simpa using hr
    exact (ci.ext hjs).step s4 k4 (G.swapL hne g)

theorem look_swap {a b : Nat} {u v : Value} {L : Env} (hne : Nat.beq a b = false) : ∀ (X : Env) (t : Nat), look (X ++ (a, u) :: (b, v) :: L) t = look (X ++ (b, v) :: (a, u) :: L) t
  | [], t => by
    simp only [List.nil_append, look]
    cases h1 : Nat.beq t a with
    | true =>
      have e := beq_true h1
      subst e
      simp [hne]
    | false => simp
  | (k, x) :: X, t => by
    simp only [List.cons_append, look]
    rw [look_swap hne X t]
theorem G.swapX (X : Env) {a b : Tmp} {u v : Value} (hne : Nat.beq a b = false) (g : G C K (X ++ (a, u) :: (b, v) :: L) H) : G C K (X ++ (b, v) :: (a, u) :: L) H :=
  fun act w F ha hs hf => g act w F ⟨ha.size, ha.defers, fun t x ht => ha.cell t x (by rw [← look_swap hne X t]; exact ht)⟩ hs hf
theorem hasS_cons {L : Env} {d e : Nat} {u : Value} (h : hasS L d = false) (hne : Nat.beq d e = false) : hasS ((e, u) :: L) d = false := by simp only [hasS, hne, cond_false]; exact h
theorem beq_comm' {a b : Nat} (h : Nat.beq a b = false) : Nat.beq b a = false := by
  cases h' : Nat.beq b a with
  | false => rfl
  | true => rw [beq_true h', Nat.beq_refl] at h; cases h

/-- Three calls that only reckon, all ready. -/
theorem xdpc3 {f : Nat} (i j k : Nat) {di dj dk : Tmp} {vi vj vk : Value} {listed li lj lk lij lik ljk l3 : List Bool} {J Ji Jj Jk Jij Jik Jjk J3 : Held} (ci : PCall p fn all L i di vi) (cj : PCall p fn all L j dj vj) (ck : PCall p fn all L k dk vk)
    (g : G C (anyI C all f l3 J3 K :: K) ((dk, vk) :: (dj, vj) :: (di, vi) :: L) H) [h0 : JOk C H J] [h1 : JOk C H Ji] [h2 : JOk C H Jj] [h3 : JOk C H Jk] [h4 : JOk C H Jij] [h5 : JOk C H Jik] [h6 : JOk C H Jjk]
    (hi : hasS L di = false := by rfl) (hj : hasS L dj = false := by rfl) (hk : hasS L dk = false := by rfl) (nji : Nat.beq dj di = false := by rfl) (nki : Nat.beq dk di = false := by rfl) (nkj : Nat.beq dk dj = false := by rfl)
    (hr : Region.ready .any all listed.toArray = [i, j, k] := by kernel_rfl) (hri : Region.ready .any all li.toArray = [j, k] := by kernel_rfl) (hrj : Region.ready .any all lj.toArray = [i, k] := by kernel_rfl) (hrk : Region.ready .any all lk.toArray = [i, j] := by kernel_rfl)
    (hrij : Region.ready .any all lij.toArray = [k] := by kernel_rfl) (hrik : Region.ready .any all lik.toArray = [j] := by kernel_rfl) (hrjk : Region.ready .any all ljk.toArray = [i] := by kernel_rfl)
    (si : setL i listed = some li := by rfl) (sj : setL j listed = some lj := by rfl) (sk : setL k listed = some lk := by rfl)
    (sij : setL j li = some lij := by rfl) (sji : setL i lj = some lij := by rfl) (sik : setL k li = some lik := by rfl) (ski : setL i lk = some lik := by rfl) (sjk : setL k lj = some ljk := by rfl) (skj : setL j lk = some ljk := by rfl)
    (s1 : setL k lij = some l3 := by rfl) (s2 : setL j lik = some l3 := by rfl) (s3 : setL i ljk = some l3 := by rfl)
    (ki : keepJ all i J = some Ji := by rfl) (kj : keepJ all j J = some Jj := by rfl) (kk : keepJ all k J = some Jk := by rfl)
    (kij : keepJ all j Ji = some Jij := by rfl) (kji : keepJ all i Jj = some Jij := by rfl) (kik : keepJ all k Ji = some Jik := by rfl) (kki : keepJ all i Jk = some Jik := by rfl) (kjk : keepJ all k Jj = some Jjk := by rfl) (kkj : keepJ all j Jk = some Jjk := by rfl)
    (k1 : keepJ all k Jij = some J3 := by rfl) (k2 : keepJ all j Jik = some J3 := by rfl) (k3 : keepJ all i Jjk = some J3 := by rfl) :
    G C (anyI C all (f + 1 + 1 + 1) listed J K :: K) L H := by
  refine G.dacts hr fun q hq => ?_
  rcases List.mem_cons.1 hq with rfl | hq
  · exact ci.step si ki (xdpc2 j k (cj.ext hi) (ck.ext hi) g (hasS_cons hj nji) (hasS_cons hk nki) nkj hri sij sik kij kik hrij hrik s1 s2 k1 k2)
  · rcases List.mem_cons.1 hq with rfl | hq
    · exact cj.step sj kj (xdpc2 i k (ci.ext hj) (ck.ext hj) (G.swapX [(dk, vk)] nji g) (hasS_cons hi (beq_comm' nji)) (hasS_cons hk nkj) nki hrj sji sjk kji kjk hrij hrjk s1 s3 k1 k3)
    · obtain rfl : q = k := by simpa using hq
      exact ck.step sk kk (xdpc2 i j (ci.ext hk) (cj.ext hk) (G.swapX [(dj, vj)] nki (G.swapX [] nkj g)) (hasS_cons hi (beq_comm' nki)) (hasS_cons hj (beq_comm' nkj)) nji hrk ski skj kki kkj hrik hrjk s2 s3 k2 k3)

/-- A cell of an element of a slice, first; the slice is held. -/
theorem xdldl {f : Nat} (i : Nat) {listed listed' : List Bool} {J : Held} {o : Oper} {d : Tmp} {v : Value} {b off off' n cap sz : Nat} {ti : TI} {xs : List Value} (ho : all[i]? = some o) (hop : ldO p.tt L o.op = some (b, off', ti)) [_hb : SlAt C H b off sz n cap xs] (j : Nat) (hv : partF ti xs j = some v) (hpos : 0 < n)
    (g : G C (anyI C all f listed' ((i, .view sz (some ⟨b, off, none⟩) n cap xs) :: J) K :: K) ((d, v) :: L) H) (hj : off' = off + j := by rfl)
    (hok : firstOk all listed i = true := by kernel_rfl) (hset : setL i listed = some listed' := by rfl) (hg : guardV all L o.guard = some true := by rfl) (hd : o.dst = some d := by rfl) (hn : Nat.blt d fn.ntmps = true := by rfl) :
    G C (anyI C all (f + 1) listed J K :: K) L H := by
  refine G.dhold (.view sz (some ⟨b, off, none⟩) n cap xs) ho hok hset (fun a ha w hb => ?_) hg hd hn g
  obtain ⟨pre, rest, hp, hbl⟩ : ∃ pre rest, pre.length = off ∧ blkAt w b (pre ++ (xs ++ rest)) := by
    rcases (hb : viewR (fun b l => blkAt w b l) sz (some ⟨b, off, none⟩) n cap xs) with h | ⟨h, _⟩
    · exact h.at
    · omega
  obtain ⟨dst, op, ty, pos, after, guard⟩ := o
  obtain ⟨t, x, rfl, ht, hx⟩ := ldO_inv hop
  have := loadVar_run (p.ok t ti ht) hbl (partF_mid (pre := pre) (rest := rest) hv)
  rw [hp, ← hj] at this
  simp [execOp, ha.eval hx, Instr.loadAt, Instr.sureAddr, this]
/-- A whole element that is a struct or an array, first; the slice is held. -/
theorem xdldla {f : Nat} (i : Nat) {listed listed' : List Bool} {J : Held} {o : Oper} {d : Tmp} {b off off' n cap sz : Nat} {ti : TI} {xs : List Value} (ho : all[i]? = some o) (hop : ldO p.tt L o.op = some (b, off', ti)) [_hb : SlAt C H b off sz n cap xs] (j : Nat) (vs : List Value) (hagg : ti.agg = true)
    (hv : (xs.drop j).take ti.size = vs) (hl : j + ti.size ≤ xs.length) (hpos : 0 < n)
    (g : G C (anyI C all f listed' ((i, .view sz (some ⟨b, off, none⟩) n cap xs) :: J) K :: K) ((d, .agg vs.toArray) :: L) H) (hj : off' = off + j := by rfl)
    (hok : firstOk all listed i = true := by kernel_rfl) (hset : setL i listed = some listed' := by rfl) (hg : guardV all L o.guard = some true := by rfl) (hd : o.dst = some d := by rfl) (hn : Nat.blt d fn.ntmps = true := by rfl) :
    G C (anyI C all (f + 1) listed J K :: K) L H := by
  refine G.dhold (.view sz (some ⟨b, off, none⟩) n cap xs) ho hok hset (fun a ha w hb => ?_) hg hd hn g
  obtain ⟨pre, rest, hp, hbl⟩ : ∃ pre rest, pre.length = off ∧ blkAt w b (pre ++ (xs ++ rest)) := by
    rcases (hb : viewR (fun b l => blkAt w b l) sz (some ⟨b, off, none⟩) n cap xs) with h | ⟨h, _⟩
    · exact h.at
    · omega
  obtain ⟨dst, op, ty, pos, after, guard⟩ := o
  obtain ⟨t, x, rfl, ht, hx⟩ := ldO_inv hop
  have hi := p.ok t ti ht
  have hlc := loadCells_run (P := p.P) hbl off' ti.size (by simp; omega)
  have e : ((pre ++ (xs ++ rest)).drop off').take ti.size = vs := by
    rw [hj, ← hp, List.drop_append, List.drop_eq_nil_of_le (by omega), List.nil_append, Nat.add_sub_cancel_left, List.drop_append_of_le_length (by omega), List.take_append_of_le_length (by simp; omega), hv]
  rw [e] at hlc
  simp [execOp, ha.eval hx, Instr.loadAt, Instr.sureAddr, loadVar, run_isAgg hi, hagg, run_sizeOf hi, hlc]
end
end Go.W

/- max and min of two numbers; '[]byte("..")' of a constant; a slice cut at its end. -/
namespace Go.W

theorem subA_nought (a : Option Addr) (sz cap : Nat) : subA a 0 sz cap = a := by
  unfold subA
  split
  · rfl
  · cases a with
    | none => rfl
    | some a => simp [Addr.add]

def maxI (a b : Int) : Int := if b > a then b else a
def minI (a b : Int) : Int := if b < a then b else a
def mmO (L : Env) (o : Op) : Option Value :=
  match o with
  | .call { callee := .builtin .max, args := ⟨[x, y]⟩, argTypes := _ } => match evalO L x, evalO L y with
    | some (.int k a), some (.int _ b) => some (.int k (maxI a b))
    | _, _ => none
  | .call { callee := .builtin .min, args := ⟨[x, y]⟩, argTypes := _ } => match evalO L x, evalO L y with
    | some (.int k a), some (.int _ b) => some (.int k (minI a b))
    | _, _ => none
  | _ => none
theorem mmO_run {P : Program} {w : World} {L : Env} {a : Act} {n : Nat} (ha : Agr n L a) {o : Oper} {v : Value} (h : mmO L o.op = some v) : (execOp a.eval o).run P w = .ok (.value v) w := by
  obtain ⟨dst, op, ty, pos, after, guard⟩ := o
  unfold mmO at h
  split at h
  · rename_i x y tys hop
    simp only at hop; subst hop
    split at h
    · rename_i k m k' m' hx hy
      simp only [Option.some.injEq] at h; subst h
      simp [execOp, resolve, invoke, builtin, Builtin.max_, Builtin.max2, ha.eval hx, ha.eval hy, maxI]
    · contradiction
  · rename_i x y tys hop
    simp only at hop; subst hop
    split at h
    · rename_i k m k' m' hx hy
      simp only [Option.some.injEq] at h; subst h
      simp [execOp, resolve, invoke, builtin, Builtin.min_, Builtin.min2, ha.eval hx, ha.eval hy, minI]
    · contradiction
  · contradiction

def cvO (tt : TypeId → Option TI) (L : Env) (o : Op) : Option (Nat × Nat × Nat × Nat) :=
  match o with
  | .convert s d x => match Nat.beq s d, tt d, evalO L x with
    | true, some i, some (.slice (some ⟨b, off, none⟩) n c) => match i.k with
      | .slice e => match tt e with
        | some j => match j.k with
          | .int .u8 => some (b, off, n, c)
          | _ => none
        | none => none
      | _ => none
    | _, _, _ => none
  | _ => none
theorem ownAt.mark {w : World} {b : Nat} {l : List Value} (h : ownAt w b l) : ownAt (w.freeze ⟨b, l.length, none⟩ 1) b l ∧ Wrote w b (w.freeze ⟨b, l.length, none⟩ 1) := by
  obtain ⟨T, lo, hi, h, hf⟩ := h
  have hb : b < w.heap.size := by
    rcases Nat.lt_or_ge b w.heap.size with h' | h'
    · exact h'
    · simp [Array.getElem?_eq_none h'] at h
  have hh : w.heap[b] = .cells l.toArray T (lo, hi) := by simpa [Array.getElem?_eq_getElem hb] using h
  refine ⟨⟨T, if lo == hi then l.length else min lo l.length, if lo == hi then l.length + 1 else max hi (l.length + 1), ?_, ?_⟩, ⟨fun c hc => ?_, ?_, rfl, rfl, rfl⟩⟩
  · unfold World.freeze
    rw [if_neg (by decide)]
    simp only
    rw [Array.getElem?_modify]
    simp only [if_true, Array.getElem?_eq_getElem hb, hh, Option.map_some]
    by_cases e : lo = hi
    · simp [e]
    · simp [e]
  · right
    by_cases e : lo = hi
    · simp [e]
    · simp only [beq_iff_eq, e, if_false]
      have : l.length ≤ lo := by rcases hf with h | h; exact absurd h.symm e; exact h
      omega
  · unfold World.freeze
    rw [if_neg (by decide)]
    simp only
    rw [Array.getElem?_modify, if_neg (fun h' => hc h'.symm)]
  · unfold World.freeze
    rw [if_neg (by decide)]
    simp

section
variable {p : Pg} {fn : Func} {rd : List HProp} {post : Post} {C : Ctx p fn rd post} {all : Array Oper} {l : List Oper} {K : List It} {L : Env} {H : List HProp}
theorem xmm {o : Oper} {d : Tmp} {v : Value} (k : G C (.ops all l :: K) ((d, v) :: L) H) (hop : mmO L o.op = some v := by rfl) (hg : guardV all L o.guard = some true := by rfl) (hd : o.dst = some d := by rfl)
    (hn : Nat.blt d fn.ntmps = true := by rfl) : G C (.ops all (o :: l) :: K) L H :=
  G.val1 hg hd (Nat.le_of_ble_eq_true hn) (fun _ w F ha hs hf => ⟨w, F, mmO_run ha hop, hs, hf⟩) k
theorem xcv {o : Oper} {d : Tmp} {b off n c : Nat} {cs : List Value} {mk : List Value → List HProp} (k : G C (.ops all l :: K) ((d, .slice (some ⟨b, off, none⟩) n c) :: L) (mk cs)) (hop : cvO p.tt L o.op = some (b, off, n, c) := by rfl) [hu : Upd H b cs mk]
    (hg : guardV all L o.guard = some true := by rfl) (hd : o.dst = some d := by rfl) (hn : Nat.blt d fn.ntmps = true := by rfl) : G C (.ops all (o :: l) :: K) L H := by
  refine G.val1 hg hd (Nat.le_of_ble_eq_true hn) (fun a w F ha hs hf => ?_) k
  obtain ⟨ho, hF⟩ := hu.own w F hs
  obtain ⟨hm, hw⟩ := ho.mark
  refine ⟨_, F, ?_, hu.set w F _ cs hs hw.other hm, hw.fr hf hF⟩
  obtain ⟨dst, op, ty, pos, after, guard⟩ := o
  unfold cvO at hop
  split at hop
  · rename_i s d' x hop'
    simp only at hop'; subst hop'
    split at hop
    · rename_i i b' off' n' c' hsd ht hx
      split at hop
      · rename_i e hk
        split at hop
        · rename_i j he
          split at hop
          · rename_i hj
            simp only [Option.some.injEq, Prod.mk.injEq] at hop
            obtain ⟨rfl, rfl, rfl, rfl⟩ := hop
            obtain rfl := beq_true hsd
            have hu1 := (p.ok _ _ ht).desc
            rw [hk] at hu1
            have hu2 := (p.ok _ _ he).desc
            rw [hj] at hu2
            obtain ⟨T, lo, hi, hb, _⟩ := ho
            have hsh : w.shape? b' = some (T, cs.length) := by unfold World.shape?; rw [hb]; simp
            simp only at hu1 hu2
            simp [execOp, convert, ha.eval hx, run_underlying hu1, run_underlying hu2, markStringish, hsh]
          · contradiction
        · contradiction
      · contradiction
    · contradiction
  · contradiction
theorem xcut (i m : Nat) {sz : Nat} {a : Option Addr} {n cap : Nat} {xs : List Value} {R : List HProp} (xs' : List Value) (hH : remN H i = some (sl sz a n cap xs, R)) (hm : m ≤ n) (hx : xs.take (m * sz) = xs') (k : G C K L (sl sz a m cap xs' :: R)) : G C K L H := by
  subst hx
  refine fun act w F ha hs hf => k act w F ha ?_ hf
  obtain ⟨F1, F2, h1, h2, hd, h3, h4⟩ := remN_ent hH w F hs
  refine ⟨F1, F2, ?_, h2, hd, h3, h4⟩
  have h1 : viewOf (fun b l => F1 b ∧ ownAt w b l) sz a n cap xs := h1
  have := viewOf.sub (k := 0) (m := m) h1 (Nat.zero_le _) hm
  rw [subA_nought] at this
  show viewOf (fun b l => F1 b ∧ ownAt w b l) sz a m cap (xs.take (m * sz))
  simpa using this
end
end Go.W

/- Stores of structs into elements of owned slices; loads and stores inside a bigger block. -/
namespace Go.W
section
variable {p : Pg} {fn : Func} {rd : List HProp} {post : Post} {C : Ctx p fn rd post} {all : Array Oper} {l : List Oper} {K : List It} {L : Env} {H : List HProp}
theorem xstla {o : Oper} {b off off' n cap sz sz2 : Nat} {xs cs : List Value} {mk : List Value → List HProp} (hop : stV p.tt L o.op = some (b, off', sz2, .agg ⟨cs⟩)) [pk : UpdS H b off sz n cap xs mk] (hsz : cs.length = sz2) (hone : ∀ v ∈ cs, v.oneCell' = true) (j : Nat) (xs' : List Value)
    (hx : xs.take j ++ cs ++ xs.drop (j + cs.length) = xs') (hl : j + cs.length ≤ xs.length) (k : G C (.ops all l :: K) L (mk xs')) (hj : off' = off + j := by rfl) (hg : guardV all L o.guard = some true := by rfl) (hd : o.dst = none := by rfl) : G C (.ops all (o :: l) :: K) L H := by
  refine G.raw hg fun a w F ha hs hf => ?_
  obtain ⟨F1, F2, ⟨h1, h2, h3, pre, rest, hp, ⟨hb, ho⟩, hc⟩, hF1, hdis, hset⟩ := pk.get w F hs
  simp only at hp hb ho
  obtain ⟨w', hr, g1, g2⟩ := stV_run p.ok ha hop hsz hone ho (by simp; omega)
  simp only [Oper.wp, hr, Oper.upon_skip, hd]
  refine k _ w' F ha (hset w' xs' (fun c hc => g2.other c (fun e => by subst e; exact hdis _ hb hc)) ⟨?_, h2, h3, pre, rest, hp, ⟨hb, ?_⟩, ?_⟩) (g2.fr hf (hF1 _ hb))
  · rw [← hx]; simp; omega
  · have e : (pre ++ (xs ++ rest)).take off' ++ cs ++ (pre ++ (xs ++ rest)).drop (off' + cs.length) = pre ++ (xs' ++ rest) := by
      rw [hj, ← hp, ← hx, List.take_append, List.take_of_length_le (by omega), Nat.add_sub_cancel_left, List.take_append_of_le_length (by omega), List.drop_append, List.drop_eq_nil_of_le (by omega), Nat.add_assoc, Nat.add_sub_cancel_left,
        List.drop_append_of_le_length (by omega)]
      simp [List.append_assoc]
    rw [e] at g1; exact g1
  · rw [← hx]; simp; omega
end
end Go.W

/- A slice compared with nil. -/
namespace Go.W
def snO (tt : TypeId → Option TI) (L : Env) (o : Op) : Option (TypeId × Bool × Option Addr) :=
  match o with
  | .binOp op t x y _ => match tt t, evalO L x, evalO L y with
    | some i, some (.slice a _ _), some (.slice none _ _) => match i.k, op with
      | .slice _, .eql => some (t, false, a)
      | .slice _, .neq => some (t, true, a)
      | _, _ => none
    | _, _, _ => none
  | _ => none
theorem sn_runN {P : Program} {w : World} {t e : TypeId} {a : Option Addr} {n c n' c' : Nat} (m : Nat) (hd : P.underlying t = some (.slice e)) : (Op.equalIn (m + 1) t (.slice a n c) (.slice none n' c')).run P w = .ok a.isNone w := by
  simp only [Op.equalIn]
  rw [run_bind_ok (run_underlying hd)]
  cases a <;> rfl
theorem sn_run {P : Program} {w : World} {t e : TypeId} {a : Option Addr} {n c n' c' : Nat} (hd : P.underlying t = some (.slice e)) : (Op.equal t (.slice a n c) (.slice none n' c')).run P w = .ok a.isNone w := sn_runN 9999 hd
theorem snO_run {P : Program} {w : World} {tt : TypeId → Option TI} (ok : ∀ t i, tt t = some i → TIok P t i) {L : Env} {a : Act} {m : Nat} (ha : Agr m L a) {o : Oper} {t : TypeId} {neg : Bool} {ad : Option Addr} (h : snO tt L o.op = some (t, neg, ad)) :
    (execOp a.eval o).run P w = .ok (.value (.bool (neg ^^ ad.isNone))) w := by
  obtain ⟨dst, op, ty, pos, after, guard⟩ := o
  unfold snO at h
  split at h
  · rename_i bop t' x y tz hop
    simp only at hop; subst hop
    split at h
    · rename_i i a' n c n' c' ht hx hy
      have hd := (ok _ _ ht).desc
      split at h
      · rename_i e hk
        simp only [Option.some.injEq, Prod.mk.injEq] at h
        obtain ⟨rfl, rfl, rfl⟩ := h
        rw [hk] at hd
        simp [execOp, eqGuard, binOp, ha.eval hx, ha.eval hy, sn_run hd]
      · rename_i e hk
        simp only [Option.some.injEq, Prod.mk.injEq] at h
        obtain ⟨rfl, rfl, rfl⟩ := h
        rw [hk] at hd
        simp [execOp, eqGuard, binOp, ha.eval hx, ha.eval hy, sn_run hd]
      · contradiction
    · contradiction
  · contradiction
section
variable {p : Pg} {fn : Func} {rd : List HProp} {post : Post} {C : Ctx p fn rd post} {all : Array Oper} {l : List Oper} {K : List It} {L : Env} {H : List HProp}
theorem xsn {o : Oper} {d : Tmp} {t : TypeId} {neg : Bool} {ad : Option Addr} (b : Bool) (hop : snO p.tt L o.op = some (t, neg, ad)) (hb : (neg ^^ ad.isNone) = b) (k : G C (.ops all l :: K) ((d, .bool b) :: L) H) (hg : guardV all L o.guard = some true := by rfl) (hd : o.dst = some d := by rfl)
    (hn : Nat.blt d fn.ntmps = true := by rfl) : G C (.ops all (o :: l) :: K) L H := by
  subst hb
  exact G.val1 hg hd (Nat.le_of_ble_eq_true hn) (fun _ w F ha hs hf => ⟨w, F, snO_run p.ok ha hop, hs, hf⟩) k
end

/-! ## A slice of one struct -/
def bsl1O (tt : TypeId → Option TI) (L : Env) (o : Op) : Option (List Value × Nat) :=
  match o with
  | .buildSlice t 1 ps => match tt t with
    | some i => match i.k with
      | .slice e => match tt e, evalPs L ps.toList with
        | some j, some [(0, .agg ⟨cs⟩)] => bif Nat.ble j.size 65536 && (Nat.blt 0 j.size && Nat.beq j.zero.length j.size) then some (cs, j.size) else none
        | _, _ => none
      | _ => none
    | none => none
  | _ => none
theorem bsl1O_ok {tt : TypeId → Option TI} {L : Env} {o : Op} {cs : List Value} {sz : Nat} (h : bsl1O tt L o = some (cs, sz)) (hl : cs.length = sz) : bslO tt L o = some (1, cs) := by
  unfold bsl1O at h
  split at h
  · rename_i t ps
    split at h
    · rename_i i ht
      split at h
      · rename_i e hk
        split at h
        · rename_i j cs' he hx
          cases hb : (Nat.ble j.size 65536 && (Nat.blt 0 j.size && Nat.beq j.zero.length j.size)) with
          | false => rw [hb] at h; cases h
          | true =>
            rw [hb] at h
            simp only [cond_true, Option.some.injEq, Prod.mk.injEq] at h
            obtain ⟨rfl, rfl⟩ := h
            simp only [Bool.and_eq_true] at hb
            obtain ⟨b1, b2, b3⟩ := hb
            have hz := beq_true b3
            simp only [bslO, ht, Option.bind_some, hk, he, hx, Nat.one_mul, b1, b2, b3, cond_true, List.replicate_one, List.flatten_cons, List.flatten_nil, List.append_nil]
            rw [fillF_cons (off := 0) (size := j.size) (r := cs') (by simp) (by simpa [cellsL] using hl) (by simp [hz, hl, cellsL]) ?_]
            · simp [forceN_some]
            · simp [fillF, cellsL, hz]
        · cases h
      · cases h
    · cases h
  · cases h
section
variable {p : Pg} {fn : Func} {rd : List HProp} {post : Post} {C : Ctx p fn rd post} {all : Array Oper} {l : List Oper} {K : List It} {L : Env} {H : List HProp}
theorem xbsl1 {o : Oper} {d : Tmp} {cs : List Value} {sz : Nat} (hop : bsl1O p.tt L o.op = some (cs, sz)) (hl : cs.length = sz) (k : ∀ b, G C (.ops all l :: K) ((d, .slice (some ⟨b, 0, none⟩) 1 1) :: L) (pts b cs :: H)) (hg : guardV all L o.guard = some true := by rfl)
    (hd : o.dst = some d := by rfl) (hn : Nat.blt d fn.ntmps = true := by rfl) : G C (.ops all (o :: l) :: K) L H := xbsl k (bsl1O_ok hop hl) hg hd hn
end

/-! ## copy into an owned slice -/
section
variable {p : Pg} {fn : Func} {rd : List HProp} {post : Post} {C : Ctx p fn rd post} {all : Array Oper} {l : List Oper} {K : List It} {L : Env} {H : List HProp}
theorem xcopys {o : Oper} {d : Tmp} {b off n' n cap sz m : Nat} {src : Value} {xs ys : List Value} {mk : List Value → List HProp} (hop : cpO p.tt L o.op = some (b, off, n', sz, src)) [pk : UpdS H b off sz n cap xs mk] (hsrc : SrcOk C H sz src m ys) (k : Nat) (hk : Nat.min m n' = k)
    (xs' : List Value) (hx : ys.take (k * sz) ++ xs.drop (k * sz) = xs') (hroom : k * sz ≤ xs.length) (g : G C (.ops all l :: K) ((d, .int .i64 (k : Int)) :: L) (mk xs'))
    (hg : guardV all L o.guard = some true := by rfl) (hd : o.dst = some d := by rfl) (hn : Nat.blt d fn.ntmps = true := by rfl) : G C (.ops all (o :: l) :: K) L H := by
  refine G.val1 hg hd (Nat.le_of_ble_eq_true hn) (fun a w F ha hs hf => ?_) g
  obtain ⟨F1, F2, ⟨v1, v2, v3, pre, rest, hp, ⟨hb, ho⟩, hc⟩, hF1, hdis, hset⟩ := pk.get w F hs
  simp only at hp hb ho
  obtain ⟨dst, op, ty, pos, after, guard⟩ := o
  unfold cpO at hop
  split at hop
  · rename_i x y tx rst hop'
    simp only at hop'; subst hop'
    split at hop
    · rename_i i b' off' n'' c' src' ht hx' hy
      split at hop
      · rename_i e hk'
        split at hop
        · rename_i k2 sz' by' z' he
          simp only [Option.some.injEq, Prod.mk.injEq] at hop
          obtain ⟨rfl, rfl, rfl, rfl, rfl⟩ := hop
          have hdx := (p.ok tx i ht).desc
          rw [hk'] at hdx
          have hkm : k ≤ m := by rw [← hk]; exact Nat.min_le_left _ _
          have hyl : (ys.take (k * sz')).length = k * sz' := by rw [List.length_take, hsrc.cells]; exact Nat.min_eq_left (Nat.mul_le_mul_right _ hkm)
          obtain ⟨w', hr, h1, h2⟩ := copy_run (off := off') (ty := ty) (rest := rst) (c := c') (n := n'') hdx (run_sizeOf (p.ok e _ he)) (lenV_run hsrc.len) (by rw [hk]; exact hsrc.run w F F k hs (fun _ h => h) hf hkm) ho (by rw [hyl, List.length_append, List.length_append]; omega) (fun v hv => hsrc.one v (List.mem_of_mem_take hv))
          rw [hyl] at h1
          rw [hk] at hr
          have e1 : (pre ++ (xs ++ rest)).take off' ++ ys.take (k * sz') ++ (pre ++ (xs ++ rest)).drop (off' + k * sz') = pre ++ (xs' ++ rest) := by
            rw [← hp, ← hx, List.take_append, List.take_of_length_le (Nat.le_refl _), Nat.sub_self, List.take_zero, List.append_nil, List.drop_append, List.drop_eq_nil_of_le (by omega), Nat.add_sub_cancel_left,
              List.drop_append_of_le_length hroom]
            simp [List.append_assoc]
          rw [e1] at h1
          have hl' : xs'.length = xs.length := by rw [← hx, List.length_append, hyl, List.length_drop]; omega
          refine ⟨w', F, ?_, hset w' xs' (fun c hc => h2.other c (fun e => by subst e; exact hdis _ hb hc)) ⟨by rw [hl']; exact v1, v2, v3, pre, rest, hp, ⟨hb, h1⟩, by rw [hl']; exact hc⟩, h2.fr hf (hF1 _ hb)⟩
          have hargs : (#[x, y] : Array Operand).map a.eval = #[.slice (some ⟨b', off', none⟩) n'' c', src'] := by simp [ha.eval hx', ha.eval hy]
          simp only [execOp, resolve, invoke, builtin, hargs]
          show Sem.run p.P (do pure (Next.value (← Builtin.copy_ (tx :: rst).toArray ty #[.slice (some ⟨b', off', none⟩) n'' c', src']))) w = _
          rw [Sem.run_bind, hr]; rfl
        · contradiction
      · contradiction
    · contradiction
  · contradiction
end
end Go.W

/- Many things owned at once; loads and stores inside a bigger block; make, as a block. -/
namespace Go.W
theorem star_nil (w : World) (F : Foot) (_h : Sat [] w F) : (starP []).holds w F := trivial
theorem star_snoc {x : HProp} {X : List HProp} (w : World) (F : Foot) (h : Sat [x, starP X] w F) : (starP (X ++ [x])).holds w F := by
  obtain ⟨F1, F2, h1, ⟨G1, G2, g1, _, _, ga, _⟩, hd, ha, hb⟩ := h
  have g1 : Sat X w G1 := g1
  show Sat (X ++ [x]) w F
  refine Sat.append.2 ⟨G1, F1, g1, ⟨F1, fun _ => False, h1, trivial, fun _ _ h => h, fun _ h => h, fun _ h => h.elim⟩, fun b hg hf => hd b hf (ga b hg), fun b hg => hb b (ga b hg), ha⟩
theorem sat_mem {w : World} : ∀ {X : List HProp} {F : Foot}, Sat X w F → ∀ x ∈ X, ∃ F1 : Foot, x.holds w F1 ∧ ∀ b, F1 b → F b
  | [], _, _, _, hx => by cases hx
  | y :: X, F, ⟨F1, F2, h1, h2, _, ha, hb⟩, x, hx => by
    rcases List.mem_cons.1 hx with rfl | hx
    · exact ⟨F1, h1, ha⟩
    · obtain ⟨G, g1, g2⟩ := sat_mem h2 x hx
      exact ⟨G, g1, fun b h => hb b (g2 b h)⟩
section
variable {p : Pg} {fn : Func} {rd : List HProp} {post : Post} {C : Ctx p fn rd post} {all : Array Oper} {l : List Oper} {K : List It} {L : Env} {H : List HProp}
theorem RdOk.star {X R : List HProp} {sz : Nat} {a : Option Addr} {n cap : Nat} {xs : List Value} (hx : sl sz a n cap xs ∈ X) (h : Rem H (starP X) R) : RdOk C H (slR sz a n cap xs) := by
  refine ⟨fun w F Fk hs hF hf => ?_⟩
  obtain ⟨F1, F2, h1, _, _, ha, _⟩ := h.ent w Fk hs
  obtain ⟨F3, h3, h4⟩ := sat_mem (show Sat X w F1 from h1) _ hx
  have h3 : viewOf (fun b l => F3 b ∧ ownAt w b l) sz a n cap xs := h3
  have h3' : viewOf (fun b l => F3 b ∧ blkAt w b l) sz a n cap xs := viewOf.mono (fun b l hb => ⟨hb.1, hb.2.blk⟩) h3
  exact ⟨F3, .inl h3', fun b hb => hf.inb b (hF b (ha b (h4 b hb))), fun b hb => .inl (ha b (h4 b hb))⟩
theorem xmakep {o : Oper} {d : Tmp} {n' m' : Int} {sz bytes : Nat} {z : List Value} (n : Nat) (hop : mkO p.tt L o.op = some (n', m', sz, bytes, z)) (hn' : n' = n) (hm' : m' = n) (hm : n * bytes ≤ 281474976710656) (hmm : n ≤ 9223372036854775807)
    (k : ∀ b, G C (.ops all l :: K) ((d, .slice (some ⟨b, 0, none⟩) n n) :: L) (pts b (zeros n z) :: H))
    (hg : guardV all L o.guard = some true := by rfl) (hd : o.dst = some d := by rfl) (hn : Nat.blt d fn.ntmps = true := by rfl) : G C (.ops all (o :: l) :: K) L H := by
  subst hn'; subst hm'
  refine G.val (H' := fun v Hs => ∃ b, v = .slice (some ⟨b, 0, none⟩) n n ∧ Hs = pts b (zeros n z) :: H) hg hd (Nat.le_of_ble_eq_true hn) (fun a w F ha hs hf => ?_) (fun v Hs ⟨b, h1, h2⟩ => by subst h1; subst h2; exact k b)
  obtain ⟨e, hr, hz⟩ := mkO_run (w := w) p.ok ha hop (Nat.le_refl _) hm hmm
  refine ⟨_, _, _, _, hr, ⟨w.heap.size, rfl, rfl⟩, ?_, hf.fresh _ w.drawn⟩
  exact hs.fresh (T := e) (l := zeros n z) hf.inb w.drawn
end
theorem at_ld {i : TI} {pre v rest : List Value} {off j : Nat} {u : Value} (ho : pre.length = off) (h : partF i v j = some u) : partF i (pre ++ (v ++ rest)) (off + j) = some u := by subst ho; exact partF_mid h
theorem at_st {pre v v' rest : List Value} {off j : Nat} {cs : List Value} (ho : pre.length = off) (hl : j + cs.length ≤ v.length) (h : v.take j ++ cs ++ v.drop (j + cs.length) = v') : putF (off + j) cs (pre ++ (v ++ rest)) = some (pre ++ (v' ++ rest)) := by
  subst ho; subst h
  rw [putF_of (by rw [List.length_append, List.length_append]; omega)]
  congr 1
  rw [List.take_append, List.take_of_length_le (by omega), Nat.add_sub_cancel_left, List.take_append_of_le_length (by omega), List.drop_append, List.drop_eq_nil_of_le (by omega), Nat.add_assoc, Nat.add_sub_cancel_left, List.drop_append_of_le_length (by omega)]
  simp [List.append_assoc]
end Go.W

/- What a value guards that was not reckoned itself. -/
namespace Go.W
section
variable {p : Pg} {fn : Func} {rd : List HProp} {post : Post} {C : Ctx p fn rd post} {all : Array Oper} {l : List Oper} {K : List It} {L : Env} {H : List HProp}
def guardU (all : Array Oper) (L : Env) (g : Option (Nat × Bool)) : Bool :=
  match g with
  | none => false
  | some (j, _) =>
    match all[j]? with
    | some o => match o.dst with
      | some d => match look L d with
        | some (.tuple ⟨[]⟩) => true
        | _ => false
      | none => false
    | none => false
theorem guardU_wanted {a : Act} {n : Nat} (ha : Agr n L a) {o : Oper} (h : guardU all L o.guard = true) : Region.wanted o (yielded all a.tmps) = false := by
  unfold guardU at h
  unfold Region.wanted
  split at h <;> rename_i hg <;> try contradiction
  rw [hg]
  rename_i j want
  split at h
  · rename_i o' ho
    split at h
    · rename_i d hd
      split at h
      · rename_i hl
        have := ha.cell d _ hl
        simp only [yielded, ho, Option.bind_some, hd, this]
        rfl
      · contradiction
    · contradiction
  · contradiction
theorem xnu {o : Oper} {d : Tmp} (k : G C (.ops all l :: K) ((d, undef) :: L) H) (hg : guardU all L o.guard = true := by rfl) (hd : o.dst = some d := by rfl) (hn : Nat.blt d fn.ntmps = true := by rfl) : G C (.ops all (o :: l) :: K) L H := by
  intro a w F ha hs hf
  show wpList p.P all (sem C K) (o :: l) a w
  unfold wpList
  rw [if_neg (by rw [guardU_wanted ha hg]; simp), hd]
  exact k _ w F (ha.put (Nat.le_of_ble_eq_true hn) undef) hs hf
theorem xdnu {f : Nat} (i : Nat) {listed listed' : List Bool} {J : Held} {o : Oper} {d : Tmp} (g : G C (anyI C all f listed' J K :: K) ((d, undef) :: L) H) (ho : all[i]? = some o := by rfl) (hok : firstOk all listed i = true := by kernel_rfl) (hset : setL i listed = some listed' := by rfl)
    (hg : guardU all L o.guard = true := by rfl) (hd : o.dst = some d := by rfl) (hn : Nat.blt d fn.ntmps = true := by rfl) : G C (anyI C all (f + 1) listed J K :: K) L H :=
  G.dtake (B := fun _ => True) ho hok hset hd (Nat.le_of_ble_eq_true hn) (fun _ h => h) (fun _ _ _ _ _ => trivial) (fun _ ha => .inr ⟨guardU_wanted ha hg, rfl⟩) g
end
end Go.W

/- The closing: what a reading of data says of the cells; a law that answers true and leaves what was there as it was. -/
namespace Go.W
open Go.ChangeShapes Go.WideShapes

/-- What a type's cells hold. -/
def Fits (tt : TypeId → Option TI) (w : World) : Nat → TypeId → List Value → Prop
  | 0, _, _ => True
  | d + 1, t, cs => match tt t with
    | none => True
    | some i => match i.k with
      | .int k => ∃ n, cs = [.int k n] ∧ (Lit.int k n).wf = true
      | .bool => ∃ b, cs = [.bool b]
      | .string => ∃ s : ByteArray, cs = [.string s] ∧ s.size ≤ maxLen
      | .slice e => ∃ a n cap, cs = [.slice a n cap] ∧ n ≤ cap ∧ cap ≤ maxLen ∧ match tt e with
        | none => True
        | some j => 0 < j.size → ∃ xs, viewR (fun b l => blkAt w b l) j.size a n cap xs ∧ ∀ k, k < n → Fits tt w d e ((xs.drop (k * j.size)).take j.size)
      | .str fs => cs.length = i.size ∧ ∀ q ∈ fs, match tt q.2 with
        | none => True
        | some j => Fits tt w d q.2 ((cs.drop q.1).take j.size)
      | .arr n e => cs.length = i.size ∧ match tt e with
        | none => True
        | some j => ∀ k, k < n → Fits tt w d e ((cs.drop (k * j.size)).take j.size)
      | _ => True

theorem cellsOf_eq {P : Program} {t : TypeId} {i : TI} (h : TIok P t i) : P.cellsOf t = i.size := by
  obtain ⟨j, h1, h2, _⟩ := h.info
  simp [Program.cellsOf, h1, h2]

/-- A row of cells, laid side by side. -/
theorem view_of_cells {w : World} {a : Addr} {n cap sz : Nat} (hsz : 0 < sz) (hn : n ≤ cap) (h : ∀ i, i < cap → ∃ cs, w.cells? 0 (a.add (i * sz)) sz = some cs) :
    ∃ xs, viewR (fun b l => blkAt w b l) sz (some a) n cap xs ∧ ∀ k, k < n → w.cells? 0 (a.add (k * sz)) sz = some ((xs.drop (k * sz)).take sz) := by
  rcases Nat.eq_zero_or_pos cap with h0 | h0
  · subst h0
    obtain rfl : n = 0 := by omega
    exact ⟨[], .inr ⟨rfl, rfl, rfl⟩, fun k hk => by omega⟩
  obtain ⟨b, off, spot⟩ := a
  have hcell : ∀ i j, i < cap → j < sz → ∃ v, w.cell? ((⟨b, off, spot⟩ : Addr).add (i * sz + j)) = some v := by
    intro i j hi hj
    obtain ⟨cs, hcs⟩ := h i hi
    obtain ⟨_, hl, hc⟩ := World.cells?_some hcs
    have := hc j hj
    have e : ((⟨b, off, spot⟩ : Addr).add (i * sz)).add j = (⟨b, off, spot⟩ : Addr).add (i * sz + j) := by
      unfold Addr.add
      by_cases h1 : i * sz = 0 <;> by_cases h2 : j = 0 <;> simp [h1, h2]
      omega
    rw [e] at this
    rw [this, List.getElem?_eq_getElem (by omega)]
    exact ⟨_, rfl⟩
  obtain ⟨v0, hv0⟩ := hcell 0 0 h0 hsz
  obtain ⟨c, T, fr, hb, hsp⟩ : ∃ c T fr, w.heap[b]? = some (.cells c T fr) ∧ spot = none := by
    have e0 : (⟨b, off, spot⟩ : Addr).add (0 * sz + 0) = ⟨b, off, spot⟩ := by simp [Addr.add]
    rw [e0] at hv0
    unfold World.cell? at hv0
    split at hv0
    · rename_i c T fr hb
      refine ⟨c, T, fr, hb, ?_⟩
      cases spot with
      | none => rfl
      | some s => simp at hv0
    · cases hv0
  subst hsp
  have hlt : ∀ m, m < cap * sz → off + m < c.size := by
    intro m hm
    obtain ⟨v, hv⟩ := hcell (m / sz) (m % sz) (Nat.div_lt_of_lt_mul (by rw [Nat.mul_comm]; exact hm)) (Nat.mod_lt _ hsz)
    rw [Nat.div_add_mod'] at hv
    rw [Addr.add_none] at hv
    simp only [World.cell?, hb] at hv
    rcases Nat.lt_or_ge (off + m) c.size with h' | h'
    · exact h'
    · simp [Array.getElem?_eq_none h'] at hv
  have hpos : 0 < cap * sz := Nat.mul_pos h0 hsz
  have hroom : off + cap * sz ≤ c.size := by have := hlt (cap * sz - 1) (by omega); omega
  have hns : n * sz ≤ cap * sz := Nat.mul_le_mul_right _ hn
  refine ⟨(c.toList.drop off).take (n * sz), .inl ⟨?_, hn, rfl, c.toList.take off, c.toList.drop (off + n * sz), ?_, ⟨T, fr, ?_⟩, ?_⟩, fun k hk => ?_⟩
  · simp; omega
  · simp; omega
  · rw [hb]
    congr 2
    apply Array.toList_inj.1
    show c.toList = _
    have e2 : c.toList.drop (off + n * sz) = (c.toList.drop off).drop (n * sz) := by rw [List.drop_drop]
    rw [e2, List.take_append_drop, List.take_append_drop]
  · simp; omega
  · obtain ⟨cs, hcs⟩ := h k (by omega)
    rw [hcs]
    obtain ⟨_, hl, hc⟩ := World.cells?_some hcs
    congr 1
    have hks : k * sz + sz ≤ n * sz := by have := Nat.mul_le_mul_right sz (show k + 1 ≤ n by omega); rw [Nat.add_mul, Nat.one_mul] at this; exact this
    apply List.ext_getElem?
    intro i
    by_cases hi : i < sz
    · rw [← hc i hi, Addr.add_none, Addr.add_none, List.getElem?_take_of_lt hi, List.getElem?_drop, List.getElem?_take_of_lt (by omega), List.getElem?_drop]
      simp [World.cell?, hb, Nat.add_assoc]
    · rw [List.getElem?_eq_none (by omega), List.getElem?_eq_none (by simp; omega)]

theorem fits {H : Type} {enc : TypeId × Value → H} {P : Program} {tt : TypeId → Option TI} (ok : ∀ t i, tt t = some i → TIok P t i) {w : World} {held : Bool} :
    ∀ (d fuel : Nat) (t : TypeId) (cs : List Value) (x : DataW H × List MemPlace), DataW.trod enc P w 0 (fun _ => true) held fuel t cs = some x → Fits tt w d t cs
  | 0, _, _, _, _, _ => trivial
  | d + 1, fuel, t, cs, x, h => by
    unfold Fits
    split
    · trivial
    · rename_i i ht
      have hd := (ok t i ht).desc
      have hsz := cellsOf_eq (ok t i ht)
      split
      · rename_i k hk
        rw [hk] at hd
        obtain ⟨n, h1, _, h2⟩ := DataW.trod_int hd h
        exact ⟨n, h1, h2⟩
      · rename_i hk
        rw [hk] at hd
        obtain ⟨b, h1, _⟩ := DataW.trod_bool hd h
        exact ⟨b, h1⟩
      · rename_i hk
        rw [hk] at hd
        obtain ⟨s, h1, _, h2⟩ := DataW.trod_string hd h
        exact ⟨s, h1, h2⟩
      · rename_i e hk
        rw [hk] at hd
        rcases Deep.open_slice hd h with ⟨rfl, _⟩ | ⟨a, len, cap, m, n, D, Pl, rfl, _, hl, hm, hmm, _, hx⟩
        · refine ⟨none, 0, 0, rfl, Nat.le_refl _, Nat.zero_le _, ?_⟩
          split
          · trivial
          · exact fun _ => ⟨[], .inr ⟨rfl, rfl, rfl⟩, fun k hk => by omega⟩
        · refine ⟨some a, len, cap, rfl, hl, hm, ?_⟩
          split
          · trivial
          · rename_i j hj
            intro hpos
            have hce := cellsOf_eq (ok e j hj)
            simp only [if_true] at hmm
            subst hmm
            rw [hce] at hx
            obtain ⟨xs, hv, hc⟩ := view_of_cells (w := w) (a := a) (n := len) (cap := m) hpos hl (fun i hi => by obtain ⟨cs', h1, _⟩ := hx i hi; exact ⟨cs', h1⟩)
            refine ⟨xs, hv, fun k hk => ?_⟩
            obtain ⟨cs', h1, h2⟩ := hx k (by omega)
            have := Option.some.inj (h1.symm.trans (hc k hk))
            subst this
            exact fits ok d n e _ _ h2
      · rename_i fs hk
        rw [hk] at hd
        obtain ⟨l, hl, hmap⟩ := hd
        obtain ⟨xs, n, _, _, hlen, hxl, hf⟩ := DataW.trod_struct hl h
        refine ⟨by rw [hlen, hsz], fun q hq => ?_⟩
        split
        · trivial
        · rename_i j hj
          rw [← hmap] at hq
          obtain ⟨f, hfm, rfl⟩ := List.mem_map.1 hq
          obtain ⟨ix, hix, hfe⟩ := List.getElem_of_mem hfm
          have hce := cellsOf_eq (ok f.type j hj)
          have := hf ix f (by simp [List.getElem?_eq_getElem hix, hfe])
          rw [hce] at this
          obtain ⟨y, hy⟩ : ∃ y, xs[ix]? = some y := ⟨xs[ix]'(by rw [hxl]; simpa using hix), List.getElem?_eq_getElem _⟩
          rw [hy] at this
          exact fits ok d n f.type _ _ this
      · rename_i n e hk
        rw [hk] at hd
        obtain ⟨xs, m, _, _, hlen, hxl, hf⟩ := DataW.trod_array hd h
        refine ⟨by rw [hlen, hsz], ?_⟩
        split
        · trivial
        · rename_i j hj
          intro k hk
          have hce := cellsOf_eq (ok e j hj)
          have := hf k hk
          rw [hce] at this
          obtain ⟨y, hy⟩ : ∃ y, xs[k]? = some y := ⟨xs[k]'(by rw [hxl]; exact hk), List.getElem?_eq_getElem _⟩
          rw [hy] at this
          exact fits ok d m e _ _ this
      · trivial
end Go.W

/- The closing, continued: from a contract that answers true and owns nothing to the row's own word. -/
namespace Go.W
open Go.ChangeShapes Go.WideShapes

section
variable {H : Type} {enc : TypeId × Value → H} {P : Program}
theorem trodAll_carry {w w' : World} {base : Nat} {sp : Nat → Bool} {held : Bool} : ∀ {ts : List TypeId} {vs : List Value} {ds : List (DataW H)} {ps : List MemPlace}, DataW.TrodAll enc P w base sp held ts vs ds ps → (∀ p ∈ ps, w.sameAt w' p) → DataW.TrodAll enc P w' base sp held ts vs ds ps
  | [], [], [], _, h, _ => h
  | _ :: _, _ :: _, _ :: _, _, ⟨p, q, ⟨n, h1⟩, h2, e⟩, hs => ⟨p, q, ⟨n, DataW.trod_carry n _ _ _ h1 (fun x hx => hs x (by rw [e]; exact List.mem_append_left _ hx))⟩, trodAll_carry h2 (fun x hx => hs x (by rw [e]; exact List.mem_append_right _ hx)), e⟩

theorem post_true {s : ChangeSpec} {f : Func} {apart fresh handsOn : Bool} {T : TypeId → Prop} (K : Kids P T) (hz : ∀ t e, T t → P.underlying t = some (.slice e) → 0 < P.cellsOf e) (hT : ∀ t ∈ f.params.toList, T t) {tb : TypeId} (hrt : f.resultTypes = #[tb]) (hb : P.underlying tb = some .bool)
    {W W' : World} {args : Array Value} {ds gs : List (DataW H)} {before : List MemPlace} (hW : DataW.Whole enc P f.params.toList s.vars apart W args.toList ds gs before) (hv : s.vars = [])
    (hs1 : (s.fn H (ds ++ gs)).results = [.lit (.bool true)]) (hs2 : (s.fn H (ds ++ gs)).args = ds) (hs3 : (s.fn H (ds ++ gs)).vars = [])
    (hk : ∀ b, b < W.heap.size → W'.heap[b]? = W.heap[b]?) (hos : W'.os = W.os) (hout : W'.output = W.output) : s.post enc P f apart fresh handsOn false W args (.bool true) W' := by
  have hlt := hW.lt
  have hsame : ∀ p ∈ before, W.sameAt W' p := by
    intro p hp
    have := hk _ (hlt p hp)
    cases p with
    | cell b o => show W'.cell? ⟨b, o, none⟩ = W.cell? ⟨b, o, none⟩; simp only [World.cell?]; rw [show W'.heap[b]? = W.heap[b]? from this]
    | map b => exact this
  have hW' := hW
  obtain ⟨p, q, hA, hV, rfl, _, _⟩ := hW'
  rw [hv] at hV
  obtain ⟨rfl, rfl⟩ := trodVars_none hV
  refine ⟨ds, [], p ++ [], [], p, [], hW, ?_, ?_, ?_, ?_, fun h => by cases h⟩
  · rw [hs1, hrt]
    exact trodAll_mk1 ⟨1, by simp [DataW.trod, hb, Value.cells]⟩
  · rw [hs2]
    refine DataW.TrodAll.respare K hz hT (trodAll_carry hA (fun x hx => hsame x (by simpa using hx))) (fun x hx => ?_)
    simpa using hlt x (by simpa using hx)
  · rw [hs3, hv]; rfl
  · exact (World.keptBut_refl W _).congr hos hout hk

/-- A law that answers true, and owns nothing. -/
theorem calls_true {s : ChangeSpec} {fid : FuncId} {f : Func} {apart fresh handsOn : Bool} {T : TypeId → Prop} (K : Kids P T) (hz : ∀ t e, T t → P.underlying t = some (.slice e) → 0 < P.cellsOf e) (hT : ∀ t ∈ f.params.toList, T t) {tb : TypeId} (hrt : f.resultTypes = #[tb])
    (hb : P.underlying tb = some .bool) {W : World} {args : List Value} {ds gs : List (DataW H)} {before : List MemPlace} (hW : DataW.Whole enc P f.params.toList s.vars apart W args ds gs before) (hv : s.vars = [])
    (hs1 : (s.fn H (ds ++ gs)).results = [.lit (.bool true)]) (hs2 : (s.fn H (ds ++ gs)).args = ds) (hs3 : (s.fn H (ds ++ gs)).vars = [])
    {rd : List HProp} (hF : Fun P fid args rd [] fun v H => v = .bool true ∧ H = []) (hrd : Rd rd W fun _ => False) :
    Calls P fid args.toArray W fun e W' => ∃ v, e = .returned v ∧ s.post enc P f apart fresh handsOn false W args.toArray v W' := by
  refine (hF.calls W (fun _ => False) hrd trivial (fun _ h => h.elim)).mono ?_
  rintro e W' ⟨v, H', F', rfl, ⟨rfl, rfl⟩, _, hf⟩
  exact ⟨_, rfl, post_true K hz hT hrt hb (by simpa using hW) hv hs1 hs2 hs3 (fun b hb => hf.kept b hb (fun h => h)) hf.os hf.out⟩
end

theorem Rd.cons {r : HProp} {rd : List HProp} {w : World} {F : Foot} (h : ∃ S : Foot, r.holds w S ∧ (∀ b, S b → b < w.heap.size) ∧ ∀ b, S b → ¬ F b) (hs : Rd rd w F) : Rd (r :: rd) w F := by
  intro x hx
  rcases List.mem_cons.1 hx with rfl | hx
  · exact h
  · exact hs x hx
theorem rd_blk {w : World} {g : Nat} {l : List Value} (h : blkAt w g l) : ∃ S : Foot, (rdb g l).holds w S ∧ (∀ b, S b → b < w.heap.size) ∧ ∀ b, S b → ¬ False :=
  ⟨(· = g), ⟨rfl, h⟩, fun b hb => by subst hb; exact h.lt, fun _ _ h => h⟩
theorem rd_view {w : World} {sz : Nat} {a : Option Addr} {n cap : Nat} {xs : List Value} (h : viewR (fun b l => blkAt w b l) sz a n cap xs) : ∃ S : Foot, (slR sz a n cap xs).holds w S ∧ (∀ b, S b → b < w.heap.size) ∧ ∀ b, S b → ¬ False :=
  ⟨(· < w.heap.size), viewR.mono (fun _ _ hb => ⟨hb.lt, hb⟩) h, fun _ h => h, fun _ _ h => h⟩

/-- The room of a slice that came in. -/
theorem weigh_slice {H : Type} {enc : TypeId × Value → H} {P : Program} {w : World} {held : Bool} {t e : TypeId} {fuel : Nat} {a : Option Addr} {n cap : Nat} {x : DataW H × List MemPlace} (ht : P.underlying t = some (.slice e))
    (h : DataW.trod enc P w 0 (fun _ => true) held fuel t [.slice a n cap] = some x) (hw : (x.1.weights P t).all (· ≤ reachBytes) = true) : cap * P.bytesOf e ≤ 140737488351232 := by
  rcases Deep.open_slice ht h with ⟨hc, rfl⟩ | ⟨a', len, cap', m, k, D, Pl, hc, _, hl, _, hmm, hx, _⟩
  · simp at hc
    obtain ⟨_, _, rfl⟩ := hc
    omega
  · simp at hc
    obtain ⟨_, rfl, rfl⟩ := hc
    simp only [if_true] at hmm
    subst hmm
    subst hx
    simp only [DataW.weights, ht, List.all_cons, Bool.and_eq_true, decide_eq_true_eq, List.length_map, List.length_range] at hw
    have := hw.1
    rw [show n + (m - n) = m by omega] at this
    exact this

/-! ## The listed variables -/
theorem laidVars_get {P : Program} {w : World} : ∀ {laid : List (String × DataW Unit)} {ps : List MemPlace}, DataW.LaidVars P w laid ps → ∀ {i : Nat} {n : String} {d : DataW Unit}, laid[i]? = some (n, d) →
    ∃ g t cs fuel p, P.globalNamed n = some g ∧ (P.globals[g]?).map (·.type) = some t ∧ w.var? P n = some cs ∧ DataW.trod (fun _ => ()) P w 0 (fun _ => true) false fuel t cs.toList = some (d, p)
  | [], _, _, i, n, d, hi => by simp at hi
  | (n', d') :: r, ps, ⟨g, t, cs, fuel, p, q, h1, h2, h3, h4, h5, _⟩, i, n, d, hi => by
    cases i with
    | zero =>
      simp only [List.getElem?_cons_zero, Option.some.injEq, Prod.mk.injEq] at hi
      obtain ⟨rfl, rfl⟩ := hi
      exact ⟨g, t, cs, fuel, p, h1, h2, h3, h4⟩
    | succ i => exact laidVars_get h5 (by simpa using hi)
theorem blk_of_var {P : Program} {w : World} {name : String} {g : Nat} {l : List Value} (hg : P.globalNamed name = some g) (h : w.var? P name = some l.toArray) : blkAt w g l := by
  simp only [World.var?, hg, Option.bind_some] at h
  split at h
  · rename_i cs T fr hb
    simp only [Option.some.injEq] at h
    subst h
    exact ⟨T, fr, hb⟩
  · cases h
theorem laid_tab {P : Program} {w : World} {laid : List (String × DataW Unit)} (h : laidMet P laid w) (i : Nat) {name : String} {k : IntKind} {zs : List Int} (hi : laid[i]? = some (name, Lib.tabData k zs)) {g : Nat} {t e : TypeId} {n : Nat}
    (hg : P.globalNamed name = some g) (hty : (P.globals[g]?).map (·.type) = some t) (ht : P.underlying t = some (.array n e)) (he : P.underlying e = some (.int k)) (hce : P.cellsOf e = 1) (hct : P.cellsOf t = n) : blkAt w g (zs.map fun z => Value.int k z) := by
  obtain ⟨ps, hl, _⟩ := h
  obtain ⟨g', t', cs, fuel, p, hg', ht', hvar, hd⟩ := laidVars_get hl hi
  obtain rfl := Option.some.inj (hg.symm.trans hg')
  obtain rfl := Option.some.inj (hty.symm.trans ht')
  have := Lib.cells_of_tab ht he hce hct hd
  refine blk_of_var hg ?_
  rw [hvar, ← this]
end Go.W
