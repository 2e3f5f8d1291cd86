/- Part of the proof: Wi, Wj, Wk, Wl, Wm, Wn, Wo, Wp, Wq, Wr, Ws, Wt, Wu, Wv -/
import Derived.Test.YtdalmiacjicgpaaGreatDoorK1
import Derived.KernelRfl
import Derived.Laws.StructEq
import Derived.Room.MakeNoZero
import Derived.Lib.UnsafeStr
import Derived.Lib.Builder
import Derived.Laws.IdiomStrings
/- A region that draws its order: what only reads is taken first, what acts in its turn. -/
namespace Go.W

section
variable {P : Program} {ops : Array Oper} {Q : Exit → Act → World → Prop}

/-- All orders, and in every world on the way 'J'. -/
def wpAnyJ (P : Program) (ops : Array Oper) (Q : Exit → Act → World → Prop) (J : Array Bool → World → Prop) : Nat → Array Bool → Act → World → Prop
  | 0, listed, a, w => J listed w ∧ Region.ready .any ops listed = [] ∧ Q .normal a w
  | f + 1, listed, a, w => J listed w ∧ (Region.ready .any ops listed = [] → Q .normal a w) ∧
      ∀ i ∈ Region.ready .any ops listed, wpOp P ops Q i (wpAnyJ P ops Q J f (listed.setIfInBounds i true)) a w

theorem wpAnyJ.here {J : Array Bool → World → Prop} {f : Nat} {listed : Array Bool} {a : Act} {w : World} (h : wpAnyJ P ops Q J f listed a w) : J listed w := by
  cases f <;> exact h.1

theorem wpAnyJ.any {J : Array Bool → World → Prop} : ∀ {f : Nat} {listed : Array Bool} {a : Act} {w : World}, wpAnyJ P ops Q J f listed a w → wpAny P .any ops Q f listed a w
  | 0, _, _, _, h => h.2
  | _f + 1, _, _, _, h => ⟨h.2.1, fun i hi => wpOp_mono (fun _ _ h' => wpAnyJ.any h') (h.2.2 i hi)⟩

/-- What has been carried out is closed: with each operation all that it waits for. -/
def Down (ops : Array Oper) (listed : Array Bool) : Prop :=
  ∀ j o, ops[j]? = some o → listed.getD j false = true → ∀ e ∈ o.after, Region.binds .any e = true → listed.getD e.on false = true

theorem Down.set {listed : Array Bool} {i : Nat} (h : Down ops listed) (hi : i ∈ Region.ready .any ops listed) : Down ops (listed.setIfInBounds i true) := by
  intro j o ho hl e he hb
  by_cases hji : i = j
  · subst hji
    obtain ⟨_, o', ho', hall⟩ := mem_ready.1 hi
    rw [ho] at ho'; obtain rfl := Option.some.inj ho'
    exact getD_set_true (hall e he hb)
  · rw [getD_set_ne false hji] at hl
    exact getD_set_true (h j o ho hl e he hb)

theorem Down.none (ops : Array Oper) (n : Nat) : Down ops (Array.replicate n false) := by
  intro j o _ hl
  simp [Array.getElem?_replicate] at hl
  split at hl <;> simp at hl

/-- 'm' waits for 'k', straight or by others. -/
def reach (ops : Array Oper) : Nat → Nat → Nat → Bool
  | 0, _, _ => false
  | f + 1, m, k => match ops[m]? with
    | some o => o.after.toList.any fun e => Region.binds .any e && (Nat.beq e.on k || reach ops f e.on k)
    | none => false

theorem reach_down {listed : Array Bool} (h : Down ops listed) : ∀ {f m k : Nat}, reach ops f m k = true → listed.getD m false = true → listed.getD k false = true
  | 0, _, _, hr, _ => by simp [reach] at hr
  | f + 1, m, k, hr, hl => by
    simp only [reach] at hr
    split at hr
    · rename_i o ho
      obtain ⟨e, he, hb⟩ := List.any_eq_true.1 hr
      simp only [Bool.and_eq_true, Bool.or_eq_true] at hb
      have h1 := h m o ho hl e (by simpa using he) hb.1
      rcases hb.2 with h2 | h2
      · rw [← beq_true h2]; exact h1
      · exact reach_down h h2 h1
    · contradiction

/-- Does the operation act on memory, or run code? -/
def isEff : Op → Bool
  | .move _ | .assign _ | .pick .. | .binOp .. | .unOp .. | .convert .. | .makeInterface .. | .makeFunc .. | .extract .. | .field .. | .nilCheck _ | .fieldAddr .. | .build .. | .load .. | .indexAddr .. | .index .. | .slice .. => false
  | .call { callee := .builtin .len, .. } => false
  | .call { callee := .builtin .cap, .. } => false
  | _ => true

/-- What was read, and must still stand. -/
inductive Hold where
  | blk (b : Nat) (cs : List Value)
  | view (sz : Nat) (a : Option Addr) (n cap : Nat) (xs : List Value)
def Hold.ok (w : World) : Hold → Prop
  | .blk b cs => blkAt w b cs
  | .view sz a n cap xs => viewR (fun b l => blkAt w b l) sz a n cap xs
abbrev Held := List (Nat × Hold)

/-- What was loaded stays, till something that waits for the load has acted. -/
def JOf (ops : Array Oper) (J : Held) (listed : Array Bool) (w : World) : Prop :=
  ∀ q ∈ J, (∀ m o, ops[m]? = some o → isEff o.op = true → reach ops ops.size m q.1 = true → listed.getD m false = false) → q.2.ok w

theorem wpOp_put' {j : Nat} {oi oj : Oper} {v : Value} (hj : ops[j]? = some oj) (hap : oi.apart ops oj = true) (hsi : ∀ cs b, oi.op ≠ .select cs b) (hsj : ∀ cs b, oj.op ≠ .select cs b)
    (hQ : ∀ c a w, Q (.panic c) (a.put oi.dst v) w → Q (.panic c) a w) {K : Act → World → Prop} {a : Act} {w : World} (h : wpOp P ops Q j K (a.put oi.dst v) w) :
    wpOp P ops Q j (fun a' w' => (execOp a'.eval oi = execOp a.eval oi ∧ Region.wanted oi (yielded ops a'.tmps) = Region.wanted oi (yielded ops a.tmps)) ∧ K (a'.put oi.dst v) w') a w := by
  obtain ⟨h1, h2, h3⟩ := Oper.apart_spec hap
  have keep : ∀ u, execOp (a.put oj.dst u).eval oi = execOp a.eval oi ∧ Region.wanted oi (yielded ops (a.put oj.dst u).tmps) = Region.wanted oi (yielded ops a.tmps) := fun u =>
    ⟨execOp_put oi hsi a oj.dst u h3, wanted_put oi a oj.dst u h3⟩
  have keepD : ∀ d u, execOp (({ a with defers := d :: a.defers } : Act).put oj.dst u).eval oi = execOp a.eval oi ∧
      Region.wanted oi (yielded ops (({ a with defers := d :: a.defers } : Act).put oj.dst u).tmps) = Region.wanted oi (yielded ops a.tmps) := fun d u =>
    ⟨(execOp_put oi hsi ({ a with defers := d :: a.defers } : Act) oj.dst u h3).trans rfl, (wanted_put oi ({ a with defers := d :: a.defers } : Act) oj.dst u h3).trans rfl⟩
  have ho : execOp (a.put oi.dst v).eval oj = execOp a.eval oj := execOp_put oj hsj a oi.dst v h1
  have hwd := wanted_put oj a oi.dst v h1
  unfold wpOp at h ⊢
  simp only [hj] at h ⊢
  rw [hwd] at h
  cases hw : Region.wanted oj (yielded ops a.tmps) with
  | false =>
    simp only [hw, Bool.false_eq_true, if_false] at h ⊢
    exact ⟨keep undef, by rw [← Act.put_comm a v undef h2]; exact h⟩
  | true =>
    simp only [hw, if_true] at h ⊢
    rcases h with h | ⟨h, hl⟩
    · refine .inl ?_
      unfold Oper.wp at h ⊢
      rw [ho] at h
      revert h
      generalize (execOp a.eval oj).run P w = r
      intro h
      cases r with
      | halt x w' =>
        cases x <;> simp only [Oper.upon] at h ⊢
        exact hQ _ _ _ h
      | ok nx w' =>
        cases nx <;> simp only [Oper.upon] at h ⊢
        case value u => exact ⟨keep u, by rw [← Act.put_comm a v u h2]; exact h⟩
        case skip => exact ⟨keep undef, by rw [← Act.put_comm a v undef h2]; exact h⟩
        case defer d =>
          refine ⟨keepD d undef, ?_⟩
          rw [← Act.put_comm _ v undef h2, ← Act.put_defers]
          exact h
        case enter f args =>
          refine Calls.mono h fun e w'' he => ?_
          cases e with
          | returned u => exact ⟨keep u, by rw [← Act.put_comm a v u h2]; exact he⟩
          | panicked c => exact hQ _ _ _ he
          | outgrown => exact he
        case row row args => exact Rows.mono h fun u w'' he => ⟨keep u, by rw [← Act.put_comm a v u h2]; exact he⟩
    · refine .inr ⟨?_, hl⟩
      unfold Oper.asks at h ⊢
      rw [ho] at h
      exact h

/-- In each world of which 'B' holds the operation gives 'v', and nothing else happens. -/
def YieldsB (P : Program) (ops : Array Oper) (B : World → Prop) (o : Oper) (v : Value) (a : Act) : Prop :=
  (Region.wanted o (yielded ops a.tmps) = true ∧ ∀ w, B w → (execOp a.eval o).run P w = .ok (.value v) w) ∨ (Region.wanted o (yielded ops a.tmps) = false ∧ v = undef)

theorem YieldsB.wpOp {B : World → Prop} {i : Nat} {o : Oper} {v : Value} {a : Act} (hi : ops[i]? = some o) (hy : YieldsB P ops B o v a) {K : Act → World → Prop} {w : World} (hB : B w) (h : K (a.put o.dst v) w) :
    Go.wpOp P ops Q i K a w := by
  unfold Go.wpOp
  simp only [hi]
  rcases hy with ⟨h1, h2⟩ | ⟨h1, rfl⟩
  · simp only [h1, if_true, Oper.wp, h2 w hB, Oper.upon]; exact .inl h
  · simp only [h1, Bool.false_eq_true, if_false]; exact h

theorem YieldsB.same {B : World → Prop} {o : Oper} {v : Value} {a a' : Act} (hy : YieldsB P ops B o v a) (he : execOp a'.eval o = execOp a.eval o) (hw : Region.wanted o (yielded ops a'.tmps) = Region.wanted o (yielded ops a.tmps)) :
    YieldsB P ops B o v a' := by unfold YieldsB at *; rw [he, hw]; exact hy

theorem wpAnyJ.mono {J J' : Array Bool → World → Prop} (hJ : ∀ listed w, J listed w → J' listed w) : ∀ {f : Nat} {listed : Array Bool} {a : Act} {w : World}, wpAnyJ P ops Q J f listed a w → wpAnyJ P ops Q J' f listed a w
  | 0, _, _, _, h => ⟨hJ _ _ h.1, h.2⟩
  | _ + 1, _, _, _, h => ⟨hJ _ _ h.1, h.2.1, fun i hi => wpOp_mono (fun _ _ h' => h'.mono hJ) (h.2.2 i hi)⟩

theorem wpAnyJ_first {i : Nat} {oi : Oper} {v : Value} (hi : ops[i]? = some oi) (hsel : Region.noSelect ops = true) (hQ : ∀ c a w, Q (.panic c) (a.put oi.dst v) w → Q (.panic c) a w) {B : World → Prop} {J J' : Array Bool → World → Prop}
    (hJJ : ∀ listed w, J listed w → J' listed w) (hJ : ∀ listed w, listed.getD i true = false → J (listed.setIfInBounds i true) w → J' listed w)
    (hB : ∀ listed w, Down ops listed → listed.getD i true = false → J (listed.setIfInBounds i true) w → B w) :
    ∀ (f : Nat) (listed : Array Bool) (a : Act) (w : World), Down ops listed →
      (∀ j oj, ops[j]? = some oj → j ≠ i → listed.getD j true = false → (∀ e ∈ oj.after, Region.binds .any e = true → e.on ≠ i) → oi.apart ops oj = true) →
      i ∈ Region.ready .any ops listed → YieldsB P ops B oi v a → wpAnyJ P ops Q J f (listed.setIfInBounds i true) (a.put oi.dst v) w → wpAnyJ P ops Q J' (f + 1) listed a w := by
  intro f
  induction f with
  | zero =>
    intro listed a w hdn _ hr hy H
    have hun := (mem_ready.1 hr).1
    refine ⟨hJ _ _ hun H.here, fun h => (by rw [h] at hr; cases hr), fun j hj => ?_⟩
    by_cases hji : j = i
    · subst hji
      exact hy.wpOp hi (hB _ _ hdn hun H.here) (H.mono hJJ)
    · have := ready_mono hj hji
      rw [H.2.1] at this; cases this
  | succ f ih =>
    intro listed a w hdn hfree hr hy H
    have hun := (mem_ready.1 hr).1
    refine ⟨hJ _ _ hun H.here, fun h => (by rw [h] at hr; cases hr), fun j hj => ?_⟩
    by_cases hji : j = i
    · subst hji
      exact hy.wpOp hi (hB _ _ hdn hun H.here) (H.mono hJJ)
    · have h1 := H.2.2 j (ready_mono hj hji)
      obtain ⟨hjun, oj, hoj, hall⟩ := mem_ready.1 hj
      have hnot : ∀ e ∈ oj.after, Region.binds .any e = true → e.on ≠ i := fun e he hb heq => by
        have h1 := hall e he hb
        rw [heq] at h1
        rcases Nat.lt_or_ge i listed.size with h' | h'
        · simp [h'] at hun h1; rw [hun] at h1; cases h1
        · simp [Array.getElem?_eq_none h'] at h1
      have h2 := wpOp_put' hoj (hfree j oj hoj hji hjun hnot) (Region.noSelect_spec hsel i oi · · hi) (Region.noSelect_spec hsel j oj · · hoj) hQ h1
      refine wpOp_mono ?_ h2
      rintro a' w' ⟨⟨e1, e2⟩, h3⟩
      refine ih (listed.setIfInBounds j true) a' w' (hdn.set hj) ?_ (ready_mono hr (Ne.symm hji)) (hy.same e1 e2) ?_
      · intro k ok hk hki hkun hno
        refine hfree k ok hk hki ?_ hno
        by_cases hjk : j = k
        · subst hjk; exact hjun
        · rw [getD_set_ne true hjk] at hkun; exact hkun
      · rw [Array.setIfInBounds_comm _ _ hji]; exact h3
end

section
variable {p : Pg} {fn : Func} {rd : List HProp} {post : Post} {C : Ctx p fn rd post} {all : Array Oper} {l : List Oper} {K : List It} {L : Env} {H : List HProp}

/-- The state in the midst of a region that draws. -/
def anyI (C : Ctx p fn rd post) (all : Array Oper) (f : Nat) (listed : List Bool) (J : Held) (K : List It) : It :=
  .fin fun a w => Down all listed.toArray → wpAnyJ p.P all (sem C K) (JOf all J) f listed.toArray a w

theorem G.draw {id : Nat} (hm : p.P.follows .mixedOrders = true) (g : G C (anyI C all all.size (List.replicate all.size false) [] K :: K) L H) : G C (.code (.region id all true) :: K) L H := by
  intro a w F ha hs hf
  have := g a { w with drawn := w.drawn + 1 } F ha (Sat.loc (w := w) (w' := { w with drawn := w.drawn + 1 }) (fun _ _ => rfl) hs) (hf.drew _)
  refine wp_region_any hm ?_
  have h := this (by rw [List.toArray_replicate]; exact Down.none _ _)
  rw [List.toArray_replicate] at h
  exact h.any

def nthL : List Oper → Nat → Option Oper
  | [], _ => none
  | o :: _, 0 => some o
  | _ :: l, n + 1 => nthL l n
def setL : Nat → List Bool → Option (List Bool)
  | _, [] => none
  | 0, _ :: l => some (true :: l)
  | n + 1, b :: l => match setL n l with | some r => some (b :: r) | none => none
theorem setL_eq : ∀ {n : Nat} {l r : List Bool}, setL n l = some r → r = l.set n true
  | _, [], r, h => by simp [setL] at h
  | 0, b :: l, r, h => by simp [setL] at h; simp [← h]
  | n + 1, b :: l, r, h => by
    simp only [setL] at h
    cases hr : setL n l with
    | none => simp [hr] at h
    | some q => simp [hr] at h; simp [← h, setL_eq hr]

theorem sem_panic {c : List PanicEntry} {a a' : Act} {w : World} : ∀ {K : List It}, sem C K (.panic c) a w → sem C K (.panic c) a' w
  | [], h => by obtain ⟨_, v, H', F', he, _⟩ := h; cases he
  | .code _ :: K, h => sem_panic (K := K) h
  | .ops _ _ :: K, h => sem_panic (K := K) h
  | .blk _ :: K, h => sem_panic (K := K) h
  | .fin _ :: K, h => sem_panic (K := K) h

/-- May the operation be taken first: it is ready, it does not act, and it is apart from whatever does not wait for it. -/
def firstOk (all : Array Oper) (listed : List Bool) (i : Nat) : Bool :=
  Region.noSelect all && (Region.ready .any all listed.toArray).contains i && Region.free .any all listed.toArray i && (match all[i]? with | some o => !isEff o.op | none => false)

theorem JOf_up {J : Held} {i : Nat} {oi : Oper} (hi : all[i]? = some oi) (he : isEff oi.op = false) {listed : Array Bool} {w : World} (h : JOf all J (listed.setIfInBounds i true) w) : JOf all J listed w := by
  intro q hq hn
  refine h q hq fun m o ho hm hr => ?_
  have hmi : i ≠ m := by rintro rfl; rw [hi] at ho; obtain rfl := Option.some.inj ho; rw [he] at hm; cases hm
  rw [getD_set_ne false hmi]
  exact hn m o ho hm hr

theorem G.dtake {f i : Nat} {listed listed' : List Bool} {J J' : Held} {o : Oper} {d : Tmp} {v : Value} {B : World → Prop} (ho : all[i]? = some o) (hok : firstOk all listed i = true) (hset : setL i listed = some listed') (hd : o.dst = some d) (hn : d < fn.ntmps)
    (hJJ : ∀ q ∈ J', q ∈ J) (hB : ∀ listed w, Down all listed → listed.getD i true = false → JOf all J (listed.setIfInBounds i true) w → B w)
    (hy : ∀ a, Agr fn.ntmps L a → YieldsB p.P all B o v a)
    (g : G C (anyI C all f listed' J K :: K) ((d, v) :: L) H) : G C (anyI C all (f + 1) listed J' K :: K) L H := by
  intro a w F ha hs hf hdn
  simp only [firstOk, ho, Bool.and_eq_true, Bool.not_eq_true'] at hok
  obtain ⟨⟨⟨h1, h2⟩, h3⟩, h4⟩ := hok
  have hr : i ∈ Region.ready .any all listed.toArray := by simpa using h2
  have hdn' := hdn.set hr
  have e : listed.toArray.setIfInBounds i true = listed'.toArray := by rw [List.setIfInBounds_toArray, setL_eq hset]
  have hdrop : ∀ listed w, JOf all J listed w → JOf all J' listed w := fun _ _ h q hq => h q (hJJ q hq)
  refine wpAnyJ_first ho h1 (fun c a w h => sem_panic h) (B := B) (J := JOf all J) hdrop (fun listed w hun h => hdrop _ _ (JOf_up ho h4 h)) hB f listed.toArray a w hdn (Region.free_spec ho h3) hr (hy a ha) ?_
  rw [e]
  have := g _ w F (ha.put hn v) hs hf
  rw [← hd] at this
  exact this (by rw [← e]; exact hdn')

/-- What only reckons, first. -/
theorem G.dop {f i : Nat} {listed listed' : List Bool} {J : Held} {o : Oper} {d : Tmp} {v : Value} (ho : all[i]? = some o) (hok : firstOk all listed i = true) (hset : setL i listed = some listed') (hv : opVal p.tt L o.op = some v)
    (hg : guardV all L o.guard = some true) (hd : o.dst = some d) (hn : Nat.blt d fn.ntmps = true) (g : G C (anyI C all f listed' J K :: K) ((d, v) :: L) H) : G C (anyI C all (f + 1) listed J K :: K) L H :=
  G.dtake (B := fun _ => True) ho hok hset hd (Nat.le_of_ble_eq_true hn) (fun _ h => h) (fun _ _ _ _ _ => trivial) (fun _ ha => .inl ⟨guardV_wanted ha hg, fun _w _ => opVal_run p.ok ha hv⟩) g
theorem G.dlen {f i : Nat} {listed listed' : List Bool} {J : Held} {o : Oper} {d : Tmp} {v : Int} (ho : all[i]? = some o) (hok : firstOk all listed i = true) (hset : setL i listed = some listed') (hv : lenO p.tt L o.op = some v)
    (hg : guardV all L o.guard = some true) (hd : o.dst = some d) (hn : Nat.blt d fn.ntmps = true) (g : G C (anyI C all f listed' J K :: K) ((d, .int .i64 v) :: L) H) : G C (anyI C all (f + 1) listed J K :: K) L H :=
  G.dtake (B := fun _ => True) ho hok hset hd (Nat.le_of_ble_eq_true hn) (fun _ h => h) (fun _ _ _ _ _ => trivial) (fun _ ha => .inl ⟨guardV_wanted ha hg, fun _w _ => lenO_run p.ok ha hv⟩) g
theorem G.dix {f i : Nat} {listed listed' : List Bool} {J : Held} {o : Oper} {d : Tmp} {b off m s k : Nat} (ho : all[i]? = some o) (hok : firstOk all listed i = true) (hset : setL i listed = some listed') (hv : ixO p.tt L o.op = some (b, off, m, s, .ofNat k)) (hk : k < m)
    (hg : guardV all L o.guard = some true) (hd : o.dst = some d) (hn : Nat.blt d fn.ntmps = true) (g : G C (anyI C all f listed' J K :: K) ((d, .pointer (some ⟨b, offAt off k s, none⟩)) :: L) H) : G C (anyI C all (f + 1) listed J K :: K) L H :=
  G.dtake (B := fun _ => True) ho hok hset hd (Nat.le_of_ble_eq_true hn) (fun _ h => h) (fun _ _ _ _ _ => trivial) (fun _ ha => .inl ⟨guardV_wanted ha hg, fun w _ => by
    rw [offAt_eq]; exact ixO_run p.ok ha hv (Int.natCast_nonneg k) (by simpa using hk)⟩) g
theorem G.dslice {f i : Nat} {listed listed' : List Bool} {J : Held} {o : Oper} {d : Tmp} {ad : Option Addr} {len cap sz : Nat} {lo' hi' : Int} (lo hi : Nat) (ho : all[i]? = some o) (hok : firstOk all listed i = true) (hset : setL i listed = some listed')
    (hv : slcO p.tt L o.op = some (ad, len, cap, sz, lo', hi')) (h1 : lo' = lo) (h2 : hi' = hi) (h3 : lo ≤ hi) (h4 : hi ≤ cap)
    (hg : guardV all L o.guard = some true) (hd : o.dst = some d) (hn : Nat.blt d fn.ntmps = true) (g : G C (anyI C all f listed' J K :: K) ((d, .slice (subA ad lo sz cap) (hi - lo) (cap - lo)) :: L) H) : G C (anyI C all (f + 1) listed J K :: K) L H := by
  subst h1; subst h2
  exact G.dtake (B := fun _ => True) ho hok hset hd (Nat.le_of_ble_eq_true hn) (fun _ h => h) (fun _ _ _ _ _ => trivial) (fun _ ha => .inl ⟨guardV_wanted ha hg, fun w _ => slcO_run p.ok ha hv h3 h4⟩) g
/-- What the guard passes over, first. -/
theorem G.dno {f i : Nat} {listed listed' : List Bool} {J : Held} {o : Oper} {d : Tmp} (ho : all[i]? = some o) (hok : firstOk all listed i = true) (hset : setL i listed = some listed')
    (hg : guardV all L o.guard = some false) (hd : o.dst = some d) (hn : Nat.blt d fn.ntmps = true) (g : G C (anyI C all f listed' J K :: K) ((d, undef) :: L) H) : G C (anyI C all (f + 1) listed J K :: K) L H :=
  G.dtake (B := fun _ => True) ho hok hset hd (Nat.le_of_ble_eq_true hn) (fun _ h => h) (fun _ _ _ _ _ => trivial) (fun _ ha => .inr ⟨guardV_wanted ha hg, rfl⟩) g
/-- What reads 'q', first: it is held from here on. -/
theorem G.dhold {f i : Nat} {listed listed' : List Bool} {J : Held} {o : Oper} {d : Tmp} {v : Value} (q : Hold) (ho : all[i]? = some o) (hok : firstOk all listed i = true) (hset : setL i listed = some listed')
    (hv : ∀ a, Agr fn.ntmps L a → ∀ w, q.ok w → (execOp a.eval o).run p.P w = .ok (.value v) w) (hg : guardV all L o.guard = some true) (hd : o.dst = some d) (hn : Nat.blt d fn.ntmps = true)
    (g : G C (anyI C all f listed' ((i, q) :: J) K :: K) ((d, v) :: L) H) : G C (anyI C all (f + 1) listed J K :: K) L H := by
  have hne : isEff o.op = false := by
    simp only [firstOk, ho, Bool.and_eq_true, Bool.not_eq_true'] at hok; exact hok.2
  refine G.dtake (B := fun w => q.ok w) ho hok hset hd (Nat.le_of_ble_eq_true hn) (fun _ h => List.mem_cons_of_mem _ h) ?_ (fun a ha => .inl ⟨guardV_wanted ha hg, fun w hb => hv a ha w hb⟩) g
  intro listed w hdn hun h
  refine h (i, q) List.mem_cons_self fun m om hom hm hr => ?_
  have hmi : i ≠ m := by rintro rfl; rw [ho] at hom; obtain rfl := Option.some.inj hom; rw [hne] at hm; cases hm
  rw [getD_set_ne false hmi]
  cases hl : listed.getD m false with
  | false => rfl
  | true =>
    have := reach_down hdn hr hl
    rcases Nat.lt_or_ge i listed.size with h' | h'
    · simp [h'] at hun this; rw [hun] at this; cases this
    · simp [Array.getElem?_eq_none h'] at this
/-- A load, first: its block is held from here on. -/
theorem G.dld {f i : Nat} {listed listed' : List Bool} {J : Held} {o : Oper} {d : Tmp} {v : Value} {b off : Nat} {ti : TI} {cs : List Value} (ho : all[i]? = some o) (hok : firstOk all listed i = true) (hset : setL i listed = some listed')
    (hop : ldO p.tt L o.op = some (b, off, ti)) (hv : partF ti cs off = some v) (hg : guardV all L o.guard = some true) (hd : o.dst = some d) (hn : Nat.blt d fn.ntmps = true)
    (g : G C (anyI C all f listed' ((i, .blk b cs) :: J) K :: K) ((d, v) :: L) H) : G C (anyI C all (f + 1) listed J K :: K) L H := by
  refine G.dhold (.blk b cs) ho hok hset (fun a ha w hb => ?_) hg hd hn g
  have hb : blkAt w b cs := hb
  obtain ⟨dst, op, ty, pos, after, guard⟩ := o
  obtain ⟨t, x, rfl, ht, hx⟩ := ldO_inv hop
  simp [execOp, ha.eval hx, Instr.loadAt, Instr.sureAddr, loadVar_run (p.ok t ti ht) hb hv]

/-- What was loaded still stands. -/
class JOk (C : Ctx p fn rd post) (H : List HProp) (J : Held) : Prop where
  ok : ∀ w F, Sat H w F → Fr C.w0 C.F0 w F → ∀ q ∈ J, q.2.ok w
instance JOk.nil (C : Ctx p fn rd post) (H : List HProp) : JOk C H [] := ⟨fun _ _ _ _ q hq => by cases hq⟩
instance JOk.cons (C : Ctx p fn rd post) (H : List HProp) (i b : Nat) (cs : List Value) (J : Held) [h : Blk C H b cs] [hs : JOk C H J] : JOk C H ((i, .blk b cs) :: J) :=
  ⟨fun w F h1 h2 q hq => by
    rcases List.mem_cons.1 hq with rfl | hq
    · exact h.blk w F h1 h2
    · exact hs.ok w F h1 h2 q hq⟩

instance JOk.view (C : Ctx p fn rd post) (H : List HProp) (i sz : Nat) (a : Option Addr) (n cap : Nat) (xs : List Value) (J : Held) [h : RdOk C H (slR sz a n cap xs)] [hs : JOk C H J] : JOk C H ((i, .view sz a n cap xs) :: J) :=
  ⟨fun w F h1 h2 q hq => by
    rcases List.mem_cons.1 hq with rfl | hq
    · obtain ⟨S, hS, _⟩ := h.ok w F F h1 (fun _ h => h) h2
      have hS : viewR (fun b l => S b ∧ blkAt w b l) sz a n cap xs := hS
      exact viewR.mono (fun _ _ h => h.2) hS
    · exact hs.ok w F h1 h2 q hq⟩

/-- What is held still, when the operation 'i' has acted. -/
def keepJ (all : Array Oper) (i : Nat) : Held → Option Held
  | [] => some []
  | q :: J => match keepJ all i J with
    | some r => bif reach all all.size i q.1 then some r else some (q :: r)
    | none => none

/-- The operations that are ready act, in whatever order. -/
theorem G.dacts {f : Nat} {listed : List Bool} {J : Held} {r : Nat} {rs : List Nat} (hr : Region.ready .any all listed.toArray = r :: rs) [hj : JOk C H J]
    (hall : ∀ j ∈ r :: rs, ∃ o listed' J', all[j]? = some o ∧ setL j listed = some listed' ∧ ((isEff o.op = true ∧ keepJ all j J = some J') ∨ J' = J) ∧ G C (.ops all [o] :: anyI C all f listed' J' K :: K) L H) : G C (anyI C all (f + 1) listed J K :: K) L H := by
  intro a w F ha hs hf hdn
  refine ⟨fun q hq _ => hj.ok w F hs hf q hq, fun h => (by rw [hr] at h; cases h), fun j hjm => ?_⟩
  rw [hr] at hjm
  obtain ⟨o, listed', J', ho, hset, hk, g⟩ := hall j hjm
  have e : listed.toArray.setIfInBounds j true = listed'.toArray := by rw [List.setIfInBounds_toArray, setL_eq hset]
  have hdn' := hdn.set (i := j) (by rw [hr]; exact hjm)
  have g := g a w F ha hs hf
  have conv : ∀ a w, sem C (anyI C all f listed' J' K :: K) .normal a w → wpAnyJ p.P all (sem C K) (JOf all J) f (listed.toArray.setIfInBounds j true) a w := by
    intro a w h
    rw [e]
    have h : Down all listed'.toArray → wpAnyJ p.P all (sem C K) (JOf all J') f listed'.toArray a w := h
    have h := h (by rw [← e]; exact hdn')
    have hlisted : ∀ (f : Nat) (ls : Array Bool) a w, ls.getD j false = true → wpAnyJ p.P all (sem C K) (JOf all J') f ls a w → wpAnyJ p.P all (sem C K) (JOf all J) f ls a w := by
      have step : ∀ (ls : Array Bool) w, ls.getD j false = true → JOf all J' ls w → JOf all J ls w := by
        intro ls w hl hJ q hq hn
        rcases hk with ⟨he, hk⟩ | hk
        rotate_left
        · subst hk; exact hJ q hq hn
        have hne : reach all all.size j q.1 = false := by
          cases hre : reach all all.size j q.1 with
          | false => rfl
          | true => have := hn j o ho he hre; rw [hl] at this; cases this
        have hmem : ∀ (J J' : Held), keepJ all j J = some J' → q ∈ J → q ∈ J' := by
          intro J
          induction J with
          | nil => intro J' _ h; cases h
          | cons x J ih =>
            intro J' h hq
            simp only [keepJ] at h
            cases hk' : keepJ all j J with
            | none => simp [hk'] at h
            | some r =>
              simp only [hk'] at h
              rcases List.mem_cons.1 hq with rfl | hq
              · simp [hne] at h; simp [← h]
              · have := ih r hk' hq
                cases hx : reach all all.size j x.1 <;> simp [hx] at h <;> simp [← h, this]
        exact hJ q (hmem J J' hk hq) hn
      intro f
      induction f with
      | zero => intro ls a w hl h; exact ⟨step _ _ hl h.1, h.2⟩
      | succ f ih => intro ls a w hl h; exact ⟨step _ _ hl h.1, h.2.1, fun i hi => wpOp_mono (fun a' w' h' => ih _ a' w' (getD_set_true hl) h') (h.2.2 i hi)⟩
    refine hlisted f _ a w ?_ h
    rw [← e]
    have hlt : j < listed.toArray.size := by
      have : j < listed.length := by
        clear e hdn' g
        revert hset
        have : ∀ (n : Nat) (l r : List Bool), setL n l = some r → n < l.length := by
          intro n l
          induction l generalizing n with
          | nil => intro r h; simp [setL] at h
          | cons b l ih =>
            intro r h
            cases n with
            | zero => simp
            | succ n =>
              simp only [setL] at h
              cases hq : setL n l with
              | none => simp [hq] at h
              | some q => have := ih n q hq; simp; omega
        exact this _ _ _
      simpa using this
    have hlt' : j < listed.length := by simpa using hlt
    simp [hlt']
  have g : wpList p.P all (sem C (anyI C all f listed' J' K :: K)) [o] a w := g
  unfold wpOp
  simp only [ho]
  unfold wpList at g
  split
  · rename_i hw
    rw [if_pos hw] at g
    rcases g with g | ⟨g, a', w', g'⟩
    · refine .inl ?_
      unfold Oper.wp at g ⊢
      revert g
      generalize (execOp a.eval o).run p.P w = r
      intro g
      cases r with
      | halt x w' =>
        cases x <;> simp only [Oper.upon] at g ⊢ <;> exact g
      | ok nx w' =>
        cases nx <;> simp only [Oper.upon] at g ⊢
        case value u => exact conv _ _ g
        case skip => exact conv _ _ g
        case defer d => exact conv _ _ g
        case enter fc args =>
          refine Calls.mono g fun e w'' he => ?_
          cases e with
          | returned u => exact conv _ _ he
          | panicked c => exact he
          | outgrown => obtain ⟨a', w', h'⟩ := he; exact ⟨a', w', h'⟩
        case row row args => exact Rows.mono g fun u w'' he => conv _ _ he
    · exact .inr ⟨g, a', w', g'⟩
  · rename_i hw
    rw [if_neg hw] at g
    exact conv _ _ g

/-- The one operation that is ready acts. -/
theorem G.dact {f i : Nat} {listed listed' : List Bool} {J J' : Held} {o : Oper} (ho : all[i]? = some o) (hr : Region.ready .any all listed.toArray = [i]) (hset : setL i listed = some listed') (hk : keepJ all i J = some J') (he : isEff o.op = true)
    [hj : JOk C H J] (g : G C (.ops all [o] :: anyI C all f listed' J' K :: K) L H) : G C (anyI C all (f + 1) listed J K :: K) L H :=
  G.dacts hr fun j hj => by
    obtain rfl : j = i := by simpa using hj
    exact ⟨o, listed', J', ho, hset, .inl ⟨he, hk⟩, g⟩

/-- The region's end. -/
theorem G.dend {f : Nat} {listed : List Bool} {J : Held} (hr : Region.ready .any all listed.toArray = []) [hj : JOk C H J] (g : G C K L H) : G C (anyI C all f listed J K :: K) L H := by
  intro a w F ha hs hf _
  have hJ : JOf all J listed.toArray w := fun q hq _ => hj.ok w F hs hf q hq
  cases f with
  | zero => exact ⟨hJ, hr, g a w F ha hs hf⟩
  | succ f => exact ⟨hJ, fun _ => g a w F ha hs hf, fun i hi => by rw [hr] at hi; cases hi⟩

/-! ### Short names -/
theorem xdraw {id : Nat} (g : G C (anyI C all all.size (List.replicate all.size false) [] K :: K) L H) (hm : p.P.follows .mixedOrders = true := by rfl) : G C (.code (.region id all true) :: K) L H := G.draw hm g
theorem xdop {f : Nat} (i : Nat) {listed listed' : List Bool} {J : Held} {o : Oper} {d : Tmp} {v : Value} (g : G C (anyI C all f listed' J K :: K) ((d, v) :: L) H) (ho : all[i]? = some o := by rfl) (hok : firstOk all listed i = true := by kernel_rfl) (hset : setL i listed = some listed' := by rfl)
    (hv : opVal p.tt L o.op = some v := by rfl) (hg : guardV all L o.guard = some true := by rfl) (hd : o.dst = some d := by rfl) (hn : Nat.blt d fn.ntmps = true := by rfl) : G C (anyI C all (f + 1) listed J K :: K) L H := G.dop ho hok hset hv hg hd hn g
theorem xdar {f : Nat} (i : Nat) {listed listed' : List Bool} {J : Held} {o : Oper} {d : Tmp} {n : Int} (g : G C (anyI C all f listed' J K :: K) ((d, .int .i64 n) :: L) H) (ho : all[i]? = some o := by rfl) (hok : firstOk all listed i = true := by kernel_rfl) (hset : setL i listed = some listed' := by rfl)
    (hv : opAr p.tt L o.op = some (.i64, n) := by rfl) (hk : -9223372036854775808 ≤ n ∧ n ≤ 9223372036854775807 := by omega) (hg : guardV all L o.guard = some true := by rfl) (hd : o.dst = some d := by rfl) (hn : Nat.blt d fn.ntmps = true := by rfl) :
    G C (anyI C all (f + 1) listed J K :: K) L H := G.dop ho hok hset (opAr_opVal hv hk) hg hd hn g
theorem xdlen {f : Nat} (i : Nat) {listed listed' : List Bool} {J : Held} {o : Oper} {d : Tmp} {v : Int} (g : G C (anyI C all f listed' J K :: K) ((d, .int .i64 v) :: L) H) (ho : all[i]? = some o := by rfl) (hok : firstOk all listed i = true := by kernel_rfl) (hset : setL i listed = some listed' := by rfl)
    (hv : lenO p.tt L o.op = some v := by rfl) (hg : guardV all L o.guard = some true := by rfl) (hd : o.dst = some d := by rfl) (hn : Nat.blt d fn.ntmps = true := by rfl) : G C (anyI C all (f + 1) listed J K :: K) L H := G.dlen ho hok hset hv hg hd hn g
theorem xdix {f : Nat} (i : Nat) {listed listed' : List Bool} {J : Held} {o : Oper} {d : Tmp} {b off m s k : Nat} (g : G C (anyI C all f listed' J K :: K) ((d, .pointer (some ⟨b, offAt off k s, none⟩)) :: L) H) (ho : all[i]? = some o := by rfl) (hok : firstOk all listed i = true := by kernel_rfl)
    (hset : setL i listed = some listed' := by rfl) (hv : ixO p.tt L o.op = some (b, off, m, s, .ofNat k) := by rfl) (hk : k < m := by omega) (hg : guardV all L o.guard = some true := by rfl) (hd : o.dst = some d := by rfl) (hn : Nat.blt d fn.ntmps = true := by rfl) :
    G C (anyI C all (f + 1) listed J K :: K) L H := G.dix ho hok hset hv hk hg hd hn g
theorem xdno {f : Nat} (i : Nat) {listed listed' : List Bool} {J : Held} {o : Oper} {d : Tmp} (g : G C (anyI C all f listed' J K :: K) ((d, undef) :: L) H) (ho : all[i]? = some o := by rfl) (hok : firstOk all listed i = true := by kernel_rfl) (hset : setL i listed = some listed' := by rfl)
    (hg : guardV all L o.guard = some false := by rfl) (hd : o.dst = some d := by rfl) (hn : Nat.blt d fn.ntmps = true := by rfl) : G C (anyI C all (f + 1) listed J K :: K) L H := G.dno ho hok hset hg hd hn g
theorem xdld {f : Nat} (i : Nat) {listed listed' : List Bool} {J : Held} {o : Oper} {d : Tmp} {v : Value} {b off : Nat} {ti : TI} {cs : List Value} (ho : all[i]? = some o) (hop : ldO p.tt L o.op = some (b, off, ti)) (g : G C (anyI C all f listed' ((i, .blk b cs) :: J) K :: K) ((d, v) :: L) H) [_hb : Blk C H b cs]
    (hok : firstOk all listed i = true := by kernel_rfl) (hset : setL i listed = some listed' := by rfl) (hv : partF ti cs off = some v := by rfl) (hg : guardV all L o.guard = some true := by rfl) (hd : o.dst = some d := by rfl) (hn : Nat.blt d fn.ntmps = true := by rfl) :
    G C (anyI C all (f + 1) listed J K :: K) L H := G.dld ho hok hset hop hv hg hd hn g
theorem xdact {f : Nat} (i : Nat) {listed listed' : List Bool} {J J' : Held} {o : Oper} (g : G C (.ops all [o] :: anyI C all f listed' J' K :: K) L H) [hj : JOk C H J] (ho : all[i]? = some o := by rfl) (hr : Region.ready .any all listed.toArray = [i] := by kernel_rfl)
    (hset : setL i listed = some listed' := by rfl) (hk : keepJ all i J = some J' := by rfl) (he : isEff o.op = true := by rfl) : G C (anyI C all (f + 1) listed J K :: K) L H := G.dact ho hr hset hk he g
/-- Two that are ready: both orders. -/
theorem xdact2 {f : Nat} (i j : Nat) {listed l1 l2 : List Bool} {J J1 J2 : Held} {o1 o2 : Oper} (g1 : G C (.ops all [o1] :: anyI C all f l1 J1 K :: K) L H) (g2 : G C (.ops all [o2] :: anyI C all f l2 J2 K :: K) L H) [hj : JOk C H J] (h1 : all[i]? = some o1 := by rfl) (h2 : all[j]? = some o2 := by rfl)
    (hr : Region.ready .any all listed.toArray = [i, j] := by kernel_rfl) (s1 : setL i listed = some l1 := by rfl) (s2 : setL j listed = some l2 := by rfl) (k1 : keepJ all i J = some J1 := by rfl) (k2 : keepJ all j J = some J2 := by rfl) (e1 : isEff o1.op = true := by rfl) (e2 : isEff o2.op = true := by rfl) :
    G C (anyI C all (f + 1) listed J K :: K) L H :=
  G.dacts hr fun q hq => by
    rcases List.mem_cons.1 hq with rfl | hq
    · exact ⟨o1, l1, J1, h1, s1, .inl ⟨e1, k1⟩, g1⟩
    · obtain rfl : q = j := by simpa using hq
      exact ⟨o2, l2, J2, h2, s2, .inl ⟨e2, k2⟩, g2⟩
theorem xdend {f : Nat} {listed : List Bool} {J : Held} (g : G C K L H) [hj : JOk C H J] (hr : Region.ready .any all listed.toArray = [] := by kernel_rfl) : G C (anyI C all f listed J K :: K) L H := G.dend hr g
end
end Go.W

/- Assertions that are composed; facts on what is only read. -/
namespace Go.W

def pureP (P : Prop) : HProp where
  holds _ _ := P
  loc _ _ _ _ h := h
  up _ _ _ _ h := h
def exP {α : Type} (f : α → HProp) : HProp where
  holds w F := ∃ x, (f x).holds w F
  loc w w' F hw := fun ⟨x, h⟩ => ⟨x, (f x).loc w w' F hw h⟩
  up w F F' hF := fun ⟨x, h⟩ => ⟨x, (f x).up w F F' hF h⟩
def starP (H : List HProp) : HProp where
  holds w F := Sat H w F
  loc _ _ _ hw h := h.loc hw
  up _ _ _ hF h := h.up hF

section
variable {p : Pg} {fn : Func} {rd : List HProp} {post : Post} {C : Ctx p fn rd post} {all : Array Oper} {l : List Oper} {K : List It} {L : Env} {H : List HProp}

theorem G.xp {P : Prop} {R : List HProp} [pk : Rem H (pureP P) R] (k : P → G C K L R) : G C K L H := by
  intro a w F ha hs hf
  obtain ⟨F1, F2, h, hR, _, _, hb⟩ := pk.ent w F hs
  exact k h a w F ha (hR.up hb) hf
theorem G.xe {α : Type} {f : α → HProp} {R : List HProp} [pk : Rem H (exP f) R] (k : ∀ x, G C K L (f x :: R)) : G C K L H := by
  intro a w F ha hs hf
  obtain ⟨F1, F2, ⟨x, h⟩, hR⟩ := pk.ent w F hs
  exact k x a w F ha ⟨F1, F2, h, hR⟩ hf
theorem G.xs {X : List HProp} {R D : List HProp} [pk : Rem H (starP X) R] [ap : App X R D] (k : G C K L D) : G C K L H := by
  intro a w F ha hs hf
  obtain ⟨F1, F2, h, hR, hd, h1, h2⟩ := pk.ent w F hs
  refine k a w F ha ?_ hf
  rw [← ap.eq]
  exact Sat.append.2 ⟨F1, F2, h, hR, hd, h1, h2⟩
/-- What some things come to, as one. -/
theorem G.fold (X : HProp) (Y : List HProp) {R : List HProp} (h : ∀ w F, Sat Y w F → X.holds w F) [pk : Pick H Y R] (k : G C K L (X :: R)) : G C K L H := by
  intro a w F ha hs hf
  obtain ⟨F1, F2, h1, hR, hd, ha1, hb1⟩ := Sat.append.1 (pk.ent w F hs)
  exact k a w F ha ⟨F1, F2, h w F1 h1, hR, hd, ha1, hb1⟩ hf
/-- And the other way. -/
theorem G.unfold (X : HProp) {Y R D : List HProp} (h : ∀ w F, X.holds w F → Sat Y w F) [pk : Rem H X R] [ap : App Y R D] (k : G C K L D) : G C K L H := by
  intro a w F ha hs hf
  obtain ⟨F1, F2, h1, hR, hd, ha1, hb1⟩ := pk.ent w F hs
  refine k a w F ha ?_ hf
  rw [← ap.eq]
  exact Sat.append.2 ⟨F1, F2, h w F1 h1, hR, hd, ha1, hb1⟩
/-- A fact that stands in the memory. -/
theorem G.fact (X : HProp) {R : List HProp} {P : Prop} (h : ∀ w F, X.holds w F → P) [pk : Rem H X R] (k : P → G C K L H) : G C K L H := by
  intro a w F ha hs hf
  obtain ⟨F1, F2, h1, hR, hd, ha1, hb1⟩ := pk.ent w F hs
  exact k (h w F1 h1) a w F ha hs hf

/-- Something that was there and is only read. -/
class RP (C : Ctx p fn rd post) (X : HProp) : Prop where
  ok : ∃ S : Foot, X.holds C.w0 S ∧ (∀ b, S b → b < C.w0.heap.size) ∧ ∀ b, S b → ¬ C.F0 b
theorem RP.of (C : Ctx p fn rd post) {X : HProp} (h : X ∈ rd) : RP C X := ⟨C.hrd X h⟩
theorem RP.pts {b : Nat} {l : List Value} (h : RP C (pts b l)) : RB C b l := by
  obtain ⟨S, ⟨hb, hs⟩, _, hf⟩ := h.ok; exact ⟨hs.blk, hf b hb⟩
theorem RP.rdb {b : Nat} {l : List Value} (h : RP C (rdb b l)) : RB C b l := by
  obtain ⟨S, ⟨hb, hs⟩, _, hf⟩ := h.ok; exact ⟨hs, hf b hb⟩
theorem RP.pure {P : Prop} (h : RP C (pureP P)) : P := by obtain ⟨S, h, _⟩ := h.ok; exact h
theorem RP.ex {α : Type} {f : α → HProp} (h : RP C (exP f)) : ∃ x, RP C (f x) := by obtain ⟨S, ⟨x, h⟩, hr⟩ := h.ok; exact ⟨x, S, h, hr⟩
theorem star_parts {w : World} {F0 : Foot} : ∀ {X : List HProp} {S : Foot}, Sat X w S → (∀ b, S b → b < w.heap.size) → (∀ b, S b → ¬ F0 b) → ∀ x ∈ X, ∃ S : Foot, x.holds w S ∧ (∀ b, S b → b < w.heap.size) ∧ ∀ b, S b → ¬ F0 b
  | [], _, _, _, _, _, hx => by cases hx
  | y :: X, S, h, hi, hf, x, hx => by
    obtain ⟨F1, F2, h1, h2, _, ha, hb⟩ := h
    rcases List.mem_cons.1 hx with rfl | hx
    · exact ⟨F1, h1, fun b h => hi b (ha b h), fun b h => hf b (ha b h)⟩
    · exact star_parts h2 (fun b h => hi b (hb b h)) (fun b h => hf b (hb b h)) x hx
theorem RP.star {X : List HProp} (h : RP C (starP X)) : ∀ x ∈ X, RP C x := by
  obtain ⟨S, h, hi, hf⟩ := h.ok
  exact fun x hx => ⟨star_parts h hi hf x hx⟩
theorem RP.sl {sz : Nat} {a : Option Addr} {n cap : Nat} {xs : List Value} (h : RP C (W.sl sz a n cap xs)) : RS C sz a n cap xs := by
  obtain ⟨S, h, _, hf⟩ := h.ok
  have h : viewOf (fun b l => S b ∧ ownAt C.w0 b l) sz a n cap xs := h
  exact ⟨.inl (h.mono fun b l hb => ⟨hb.2.blk, hf b hb.1⟩)⟩
theorem RP.slR {sz : Nat} {a : Option Addr} {n cap : Nat} {xs : List Value} (h : RP C (W.slR sz a n cap xs)) : RS C sz a n cap xs := by
  obtain ⟨S, h, _, hf⟩ := h.ok
  have h : viewR (fun b l => S b ∧ blkAt C.w0 b l) sz a n cap xs := h
  exact ⟨h.mono fun b l hb => ⟨hb.2, hf b hb.1⟩⟩
instance (priority := low) RdOk.rp (C : Ctx p fn rd post) (H : List HProp) (X : HProp) [h : RP C X] : RdOk C H X := by
  obtain ⟨S, hX, hi, hfree⟩ := h.ok
  refine ⟨fun w F Fk _ _ hf => ⟨S, X.loc C.w0 w S (fun b hb => hf.kept b (hi b hb) (hfree b hb)) hX, fun b hb => Nat.lt_of_lt_of_le (hi b hb) hf.size, fun b hb => .inr fun hF => hfree b hb (hf.own b hF (hi b hb))⟩⟩
end

theorem ent_pick {H X R : List HProp} [p : Pick H X R] : Ent H X := p.toEnt

/-! ### By places -/
def remN : List HProp → Nat → Option (HProp × List HProp)
  | [], _ => none
  | x :: H, 0 => some (x, H)
  | x :: H, n + 1 => match remN H n with
    | some (y, R) => some (y, x :: R)
    | none => none
/-- The things at these places (each counted in what is left), and the rest. -/
def pickN : List HProp → List Nat → Option (List HProp × List HProp)
  | H, [] => some ([], H)
  | H, n :: ns => match remN H n with
    | some (y, R) => (match pickN R ns with
      | some (Y, R') => some (y :: Y, R')
      | none => none)
    | none => none
theorem remN_ent : ∀ {H : List HProp} {n : Nat} {y : HProp} {R : List HProp}, remN H n = some (y, R) → Ent H (y :: R)
  | [], n, y, R, h => by simp [remN] at h
  | x :: H, 0, y, R, h => by simp [remN] at h; obtain ⟨rfl, rfl⟩ := h; exact Ent.refl _
  | x :: H, n + 1, y, R, h => by
    simp only [remN] at h
    cases hr : remN H n with
    | none => simp [hr] at h
    | some q =>
      obtain ⟨z, Q⟩ := q
      simp [hr] at h
      obtain ⟨rfl, rfl⟩ := h
      exact (Ent.cons x (remN_ent hr)).trans (Ent.swap x z Q)
theorem pickN_ent : ∀ {ns : List Nat} {H Y R : List HProp}, pickN H ns = some (Y, R) → Ent H (Y ++ R)
  | [], H, Y, R, h => by simp [pickN] at h; obtain ⟨rfl, rfl⟩ := h; exact Ent.refl _
  | n :: ns, H, Y, R, h => by
    simp only [pickN] at h
    cases hr : remN H n with
    | none => simp [hr] at h
    | some q =>
      obtain ⟨y, Q⟩ := q
      simp only [hr] at h
      cases hp : pickN Q ns with
      | none => simp [hp] at h
      | some q2 =>
        obtain ⟨Y', R'⟩ := q2
        simp [hp] at h
        obtain ⟨rfl, rfl⟩ := h
        exact (remN_ent hr).trans (Ent.cons y (pickN_ent hp))

section
variable {p : Pg} {fn : Func} {rd : List HProp} {post : Post} {C : Ctx p fn rd post} {all : Array Oper} {l : List Oper} {K : List It} {L : Env} {H : List HProp}
/-- The end: what is handed back stands at these places. -/
theorem xretp (ns : List Nat) {rs : List ResultVar} {vs : List Value} {H' R : List HProp} (hp : post (resV vs) H') (hH : pickN H ns = some (H', R) := by rfl) (hr : fn.results = rs.toArray := by rfl) (hv : resO L rs = some vs := by rfl) : G C (.code .ret :: K) L H :=
  G.ret hr hv H' hp (Pick.toEnt (R := R) ⟨pickN_ent hH⟩)
theorem xdonep (ns : List Nat) {rs : List ResultVar} {vs : List Value} {H' R : List HProp} (hp : post (resV vs) H') (hH : pickN H ns = some (H', R) := by rfl) (hr : fn.results = rs.toArray := by rfl) (hv : resO L rs = some vs := by rfl) : G C [] L H :=
  G.done hr hv H' hp (Pick.toEnt (R := R) ⟨pickN_ent hH⟩)
/-- What stands at these places, as one. -/
theorem xfold (X : HProp) (ns : List Nat) {Y R : List HProp} (hH : pickN H ns = some (Y, R)) (h : ∀ w F, Sat Y w F → X.holds w F) (k : G C K L (X :: R)) : G C K L H :=
  G.fold X Y h (pk := ⟨pickN_ent hH⟩) k
theorem xcallp (ns : List Nat) {o : Oper} {d : Tmp} {f : FuncId} {args : List Value} {rs X R : List HProp} {post' : Post} (hH : pickN H ns = some (X, R)) (hc : Fun p.P f args rs X post') (k : ∀ v H', post' v H' → G C (.ops all l :: K) ((d, v) :: L) (H' ++ R))
    (hop : callO L o.op = some (f, args) := by rfl) (hg : guardV all L o.guard = some true := by rfl) (hd : o.dst = some d := by rfl) (hn : Nat.blt d fn.ntmps = true := by rfl) [ro : RdAll C R rs] : G C (.ops all (o :: l) :: K) L H :=
  G.call hc hop hg hd hn (pk := ⟨pickN_ent hH⟩) k
end

/-- Out of a callee's own word on 'Calls': what it owned is what it was, but for these cells. -/
theorem Fun.of_calls {P : Program} {f : FuncId} {args : List Value} {rd H : List HProp} {post : Post} (hc : Callable P f)
    (h : ∀ w F, Rd rd w F → Sat H w F → (∀ b, F b → b < w.heap.size) → Calls P f args.toArray w (Res w F post)) : Fun P f args rd H post := ⟨hc, h⟩

end Go.W

/- make, copy; pieces of what is owned, to be read. -/
namespace Go.W

/-- n zero values in a row. -/
def zeros (n : Nat) : List Value → List Value
  | [z] => List.replicate n z
  | z => (List.replicate n z).flatten
theorem zeros_eq (n : Nat) (z : List Value) : zeros n z = (List.replicate n z).flatten := by
  unfold zeros
  split
  · rename_i z
    induction n with
    | zero => rfl
    | succ n ih => rw [List.replicate_succ, List.replicate_succ, List.flatten_cons, ih]; rfl
  · rfl
theorem zeros_length (n : Nat) (z : List Value) : (zeros n z).length = n * z.length := by
  rw [zeros_eq, List.length_flatten]; simp
theorem zeros_add (n m : Nat) (z : List Value) : zeros (n + m) z = zeros n z ++ zeros m z := by
  rw [zeros_eq, zeros_eq, zeros_eq, ← List.flatten_append, List.replicate_append_replicate]

/-- A slice that is made: the lengths, an element's cells and bytes, its zero value. -/
def mkO (tt : TypeId → Option TI) (L : Env) (o : Op) : Option (Int × Int × Nat × Nat × List Value) :=
  match o with
  | .makeSlice t x y => match tt t, evalO L x, evalO L y with
    | some i, some (.int _ n), some (.int _ m) => match i.k with
      | .slice e => match tt e with
        | some ⟨_, sz, bytes, z⟩ => bif Nat.beq z.length sz then some (n, m, sz, bytes, z) else none
        | none => none
      | _ => none
    | _, _, _ => none
  | _ => none

theorem wrap_nat {n : Nat} (h : (n : Int) ≤ 9223372036854775807) : IntKind.i64.wrap (n : Int) = n := wrap_in (k := .i64) ⟨by omega, h⟩

theorem mkO_run {P : Program} {w : World} {tt : TypeId → Option TI} (ok : ∀ t i, tt t = some i → TIok P t i) {L : Env} {a : Act} {nt : Nat} (ha : Agr nt L a) {o : Oper} {n m sz bytes : Nat} {z : List Value}
    (h : mkO tt L o.op = some ((n : Int), (m : Int), sz, bytes, z)) (hnm : n ≤ m) (hm : m * bytes ≤ 281474976710656) (hm' : m ≤ 9223372036854775807) :
    ∃ e, (execOp a.eval o).run P w = .ok (.value (.slice (some ⟨w.heap.size, 0, none⟩) n m)) { w with heap := w.heap.push (.cells (zeros m z).toArray e) } ∧ z.length = sz := by
  obtain ⟨dst, op, ty, pos, after, guard⟩ := o
  unfold mkO at h
  split at h
  · rename_i t x y hop
    simp only at hop; subst hop
    split at h
    · rename_i i k n' k' m' ht hx hy
      split at h
      · rename_i e hk
        split at h
        · rename_i k2 sz' bytes' z' he
          cases hz : Nat.beq z'.length sz' with
          | false => simp [hz] at h
          | true =>
            simp only [hz, cond_true, Option.some.injEq, Prod.mk.injEq] at h
            obtain ⟨rfl, rfl, rfl, rfl, rfl⟩ := h
            have hz := beq_true hz
            have hd := (ok t i ht).desc
            rw [hk] at hd
            have hj := ok e _ he
            obtain ⟨j, hji, hjs, hjb, zv, hjz, hzc⟩ := hj.info
            simp only at hjs hjb hzc
            refine ⟨e, ?_, hz⟩
            have w1 : IntKind.i64.wrap (n : Int) = n := wrap_nat (by omega)
            have w2 : IntKind.i64.wrap (m : Int) = m := wrap_nat (by omega)
            have hbig : ¬ ((bytes' : Int) * (m : Int) > 2 ^ 48) := by
              have : (m * bytes' : Nat) ≤ 2 ^ 48 := hm
              have e : ((bytes' : Int) * (m : Int)) = ((m * bytes' : Nat) : Int) := by rw [Int.natCast_mul, Int.mul_comm]
              rw [e]; omega
            have hcells : (Array.range (m * sz')).map (fun i => (if m * sz' = 0 then (#[] : Array Value) else z'.toArray)[i % (if m * sz' = 0 then (#[] : Array Value) else z'.toArray).size]!) = (zeros m z').toArray := by
              by_cases h0 : m * sz' = 0
              · have hzz : zeros m z' = [] := by apply List.eq_nil_of_length_eq_zero; rw [zeros_length, hz]; exact h0
                rw [hzz, h0]; simp [← Array.size_eq_zero_iff]
              · rw [if_neg h0, zeros_eq]
                have := range_flatten m z' (by rw [hz]; omega)
                rw [hz] at this
                exact this
            simp only [execOp]
            refine run_bind_ok (a := Value.slice (some ⟨w.heap.size, 0, none⟩) n m) ?_
            unfold Instr.makeSlice
            rw [run_bind_ok (run_underlying hd)]
            simp only []
            rw [run_bind_ok (a := (n : Int)) (w' := w) (by simp [asInt, asIntOf, ha.eval hx]), run_bind_ok (a := (m : Int)) (w' := w) (by simp [asInt, asIntOf, ha.eval hy]), run_bind_ok (run_typeInfo hji)]
            simp only [w1, w2, hjb]
            rw [if_neg (by
              simp only [Bool.or_eq_true, decide_eq_true_eq, not_or]
              refine ⟨⟨⟨by omega, hbig⟩, by omega⟩, by omega⟩)]
            rw [run_bind_ok (a := ()) (w' := w) (by simp), run_bind_ok (run_sizeOf hj)]
            simp only [Int.toNat_natCast]
            by_cases h0 : m * sz' = 0
            · rw [if_pos h0] at hcells ⊢
              rw [run_bind_ok (a := (#[] : Array Value)) (w' := w) rfl, hcells]
              simp [newRow]
            · rw [if_neg h0] at hcells ⊢
              rw [run_bind_ok (a := zv) (w' := w) (by simp [zeroValue, run_typeInfo hji, hjz]), run_bind_ok (a := z'.toArray) (w' := w) (by rw [hzc]; rfl), hcells]
              simp [newRow]
        · contradiction
      · contradiction
    · contradiction
  · contradiction

/-! ## copy -/
/-- What is copied onto what: the target's block, offset, length; an element's cells; the source. -/
def cpO (tt : TypeId → Option TI) (L : Env) (o : Op) : Option (Nat × Nat × Nat × Nat × Value) :=
  match o with
  | .call { callee := .builtin .copy, args := ⟨[x, y]⟩, argTypes := ⟨tx :: _⟩ } => match tt tx, evalO L x, evalO L y with
    | some i, some (.slice (some ⟨b, off, none⟩) n _), some src => match i.k with
      | .slice e => match tt e with
        | some ⟨_, sz, _, _⟩ => some (b, off, n, sz, src)
        | none => none
      | _ => none
    | _, _, _ => none
  | _ => none

section
variable {p : Pg} {fn : Func} {rd : List HProp} {post : Post} {C : Ctx p fn rd post} {all : Array Oper} {l : List Oper} {K : List It} {L : Env} {H : List HProp}

/-- make([]T, n, m), owned. -/
theorem xmake {o : Oper} {d : Tmp} {n' m' : Int} {sz bytes : Nat} {z : List Value} (n m : Nat) (hop : mkO p.tt L o.op = some (n', m', sz, bytes, z)) (hn' : n' = n) (hm' : m' = m) (hnm : n ≤ m) (hm : m * bytes ≤ 281474976710656) (hmm : m ≤ 9223372036854775807)
    (k : ∀ b, G C (.ops all l :: K) ((d, .slice (some ⟨b, 0, none⟩) n m) :: L) (sl sz (some ⟨b, 0, none⟩) n m (zeros n z) :: H))
    (hg : guardV all L o.guard = some true := by rfl) (hd : o.dst = some d := by rfl) (hn : Nat.blt d fn.ntmps = true := by rfl) : G C (.ops all (o :: l) :: K) L H := by
  subst hn'; subst hm'
  refine G.val (H' := fun v Hs => ∃ b, v = .slice (some ⟨b, 0, none⟩) n m ∧ Hs = sl sz (some ⟨b, 0, none⟩) n m (zeros n z) :: H) hg hd (Nat.le_of_ble_eq_true hn) (fun a w F ha hs hf => ?_) (fun v Hs ⟨b, h1, h2⟩ => by subst h1; subst h2; exact k b)
  obtain ⟨e, hr, hz⟩ := mkO_run (w := w) p.ok ha hop hnm hm hmm
  refine ⟨_, _, _, _, hr, ⟨w.heap.size, rfl, rfl⟩, ?_, hf.fresh _ w.drawn⟩
  obtain ⟨F1, F2, ⟨h1, h2⟩, h3, h4, h5, h6⟩ := hs.fresh (T := e) (l := zeros m z) hf.inb w.drawn
  have h2 : ownAt _ w.heap.size (zeros m z) := h2
  have ezz : zeros m z = zeros n z ++ zeros (m - n) z := by rw [← zeros_add]; congr 1; omega
  refine ⟨F1, F2, ⟨by rw [zeros_length, hz], hnm, rfl, [], zeros (m - n) z, rfl, ⟨h1, ?_⟩, by rw [zeros_length, zeros_length, hz, ← Nat.add_mul]; exact Nat.mul_le_mul_right _ (by omega)⟩, h3, h4, h5, h6⟩
  rw [List.nil_append, ← ezz]; exact h2

theorem copy_run {P : Program} {w : World} {tx : TypeId} {e : TypeId} {rest : List TypeId} {ty : TypeId} {x : Value} {b off n c m sz : Nat} {cs ys : List Value} (ht : P.underlying tx = some (.slice e)) (hsz : (sizeOf e).run P w = .ok sz w)
    (hl : (Builtin.lenOf x).run P w = .ok m w) (hs : (Builtin.firstCells sz (Nat.min m n) x).run P w = .ok ys.toArray w) (ho : ownAt w b cs) (hroom : off + ys.length ≤ cs.length) (hone : ∀ v ∈ ys, v.oneCell' = true) :
    ∃ w', (Builtin.copy_ (tx :: rest).toArray ty #[.slice (some ⟨b, off, none⟩) n c, x]).run P w = .ok (.int .i64 (Nat.min m n : Nat)) w' ∧ ownAt w' b (cs.take off ++ ys ++ cs.drop (off + ys.length)) ∧ Wrote w b w' := by
  obtain ⟨w', hst, ho', hw⟩ := storeCells_run (P := P) (cs := ys) (off := off) 0 ho (by simpa using hroom) hone
  refine ⟨w', ?_, by simpa using ho', hw⟩
  unfold Builtin.copy_
  simp only [List.getElem?_toArray, List.getElem?_cons_zero, List.getElem?_cons_succ]
  rw [run_bind_ok (run_underlying ht)]
  simp only []
  rw [run_bind_ok hl, run_bind_ok hsz, run_bind_ok hs]
  simp only []
  rw [run_bind_ok hst]
  rfl

/-- copy: so many elements ('k' of them) go over. -/
theorem xcopy {o : Oper} {d : Tmp} {b off n sz m : Nat} {src : Value} {cs ys : List Value} {mk : List Value → List HProp} (hop : cpO p.tt L o.op = some (b, off, n, sz, src)) [hu : Upd H b cs mk] (hsrc : SrcOk C H sz src m ys) (k : Nat) (hk : Nat.min m n = k)
    (cs' : List Value) (hcs : cs.take off ++ ys.take (k * sz) ++ cs.drop (off + k * sz) = cs') (hroom : off + k * sz ≤ cs.length) (g : G C (.ops all l :: K) ((d, .int .i64 (k : Int)) :: L) (mk cs'))
    (hg : guardV all L o.guard = some true := by rfl) (hd : o.dst = some d := by rfl) (hn : Nat.blt d fn.ntmps = true := by rfl) : G C (.ops all (o :: l) :: K) L H := by
  refine G.val1 hg hd (Nat.le_of_ble_eq_true hn) (fun a w F ha hs hf => ?_) g
  obtain ⟨ho, hF⟩ := hu.own w F hs
  obtain ⟨dst, op, ty, pos, after, guard⟩ := o
  unfold cpO at hop
  split at hop
  · rename_i x y tx rest hop'
    simp only at hop'; subst hop'
    split at hop
    · rename_i i b' off' n' c' src' ht hx hy
      split at hop
      · rename_i e hk'
        split at hop
        · rename_i k2 sz' by' z' he
          simp only [Option.some.injEq, Prod.mk.injEq] at hop
          obtain ⟨rfl, rfl, rfl, rfl, rfl⟩ := hop
          have hdx := (p.ok tx i ht).desc
          rw [hk'] at hdx
          have hkm : k ≤ m := by rw [← hk]; exact Nat.min_le_left _ _
          have hyl : (ys.take (k * sz')).length = k * sz' := by rw [List.length_take, hsrc.cells]; exact Nat.min_eq_left (Nat.mul_le_mul_right _ hkm)
          obtain ⟨w', hr, h1, h2⟩ := copy_run (ty := ty) (rest := rest) (c := c') (n := n') hdx (run_sizeOf (p.ok e _ he)) (lenV_run hsrc.len) (by rw [hk]; exact hsrc.run w F F k hs (fun _ h => h) hf hkm) ho (by rw [hyl]; exact hroom) (fun v hv => hsrc.one v (List.mem_of_mem_take hv))
          rw [hyl, hcs] at h1
          rw [hk] at hr
          refine ⟨w', F, ?_, hu.set w F w' cs' hs h2.other h1, h2.fr hf hF⟩
          have hargs : (#[x, y] : Array Operand).map a.eval = #[.slice (some ⟨b', off', none⟩) n' c', src'] := by simp [ha.eval hx, ha.eval hy]
          simp only [execOp, resolve, invoke, builtin, hargs]
          show Sem.run p.P (do pure (Next.value (← Builtin.copy_ (tx :: rest).toArray ty #[.slice (some ⟨b', off', none⟩) n' c', src']))) w = _
          rw [Sem.run_bind, hr]; rfl
        · contradiction
      · contradiction
    · contradiction
  · contradiction

/-- A piece of what may be read may be read. -/
theorem RdOk.sub {sz : Nat} {a : Option Addr} {n cap : Nat} {xs : List Value} (h : RdOk C H (slR sz a n cap xs)) {k m : Nat} (hk : k ≤ m) (hm : m ≤ n) :
    RdOk C H (slR sz (subA a k sz cap) (m - k) (cap - k) ((xs.drop (k * sz)).take ((m - k) * sz))) := by
  refine ⟨fun w F Fk hs hF hf => ?_⟩
  obtain ⟨S, hS, hi, hfree⟩ := h.ok w F Fk hs hF hf
  have hS : viewR (fun b l => S b ∧ blkAt w b l) sz a n cap xs := hS
  exact ⟨S, hS.sub hk hm, hi, hfree⟩
theorem RdOk.rs' {sz : Nat} {a : Option Addr} {n cap : Nat} {xs : List Value} (h : RS C sz a n cap xs) : RdOk C H (slR sz a n cap xs) := inferInstance

theorem xslice {o : Oper} {d : Tmp} {ad : Option Addr} {len cap sz : Nat} {lo' hi' : Int} (lo hi : Nat) (hop : slcO p.tt L o.op = some (ad, len, cap, sz, lo', hi')) (h1 : lo' = lo) (h2 : hi' = hi) (h3 : lo ≤ hi) (h4 : hi ≤ cap)
    (k : G C (.ops all l :: K) ((d, .slice (subA ad lo sz cap) (hi - lo) (cap - lo)) :: L) H) (hg : guardV all L o.guard = some true := by rfl) (hd : o.dst = some d := by rfl) (hn : Nat.blt d fn.ntmps = true := by rfl) : G C (.ops all (o :: l) :: K) L H :=
  G.slice lo hi hop h1 h2 h3 h4 hg hd hn k
theorem xdslice {f : Nat} (i : Nat) {listed listed' : List Bool} {J : Held} {o : Oper} {d : Tmp} {ad : Option Addr} {len cap sz : Nat} {lo' hi' : Int} (lo hi : Nat) (ho : all[i]? = some o) (hv : slcO p.tt L o.op = some (ad, len, cap, sz, lo', hi')) (h1 : lo' = lo) (h2 : hi' = hi) (h3 : lo ≤ hi) (h4 : hi ≤ cap)
    (g : G C (anyI C all f listed' J K :: K) ((d, .slice (subA ad lo sz cap) (hi - lo) (cap - lo)) :: L) H) (hok : firstOk all listed i = true := by kernel_rfl) (hset : setL i listed = some listed' := by rfl)
    (hg : guardV all L o.guard = some true := by rfl) (hd : o.dst = some d := by rfl) (hn : Nat.blt d fn.ntmps = true := by rfl) : G C (anyI C all (f + 1) listed J K :: K) L H := G.dslice lo hi ho hok hset hv h1 h2 h3 h4 hg hd hn g
end
end Go.W

/- An element of a slice, loaded and stored; lists of structs, laid flat. -/
namespace Go.W
section
variable {p : Pg} {fn : Func} {rd : List HProp} {post : Post} {C : Ctx p fn rd post} {all : Array Oper} {l : List Oper} {K : List It} {L : Env} {H : List HProp}

/-- The slice in the block 'b', owned or read. -/
class SlAt (C : Ctx p fn rd post) (H : List HProp) (b : Nat) (off sz n cap : outParam Nat) (xs : outParam (List Value)) : Prop where
  view : ∀ w F, Sat H w F → Fr C.w0 C.F0 w F → viewOf (fun b l => blkAt w b l) sz (some ⟨b, off, none⟩) n cap xs
instance SlAt.here (C : Ctx p fn rd post) (H : List HProp) (b off sz n cap : Nat) (xs : List Value) : SlAt C (sl sz (some ⟨b, off, none⟩) n cap xs :: H) b off sz n cap xs :=
  ⟨fun w _ ⟨F1, _, h, _⟩ _ => viewOf.mono (p := fun b l => F1 b ∧ ownAt w b l) (fun _ _ hb => hb.2.blk) h⟩
instance (priority := low) SlAt.there (C : Ctx p fn rd post) (x : HProp) (H : List HProp) (b off sz n cap : Nat) (xs : List Value) [h : SlAt C H b off sz n cap xs] : SlAt C (x :: H) b off sz n cap xs :=
  ⟨fun w F ⟨_, _, _, h2, _, _, hb⟩ hf => h.view w F (h2.up hb) hf⟩
/-- A slice that is read, by its block. -/
class RSB (C : Ctx p fn rd post) (b : Nat) (off sz n cap : outParam Nat) (xs : outParam (List Value)) : Prop where
  rs : RS C sz (some ⟨b, off, none⟩) n cap xs
  pos : 0 < n
instance (priority := low) SlAt.rs (C : Ctx p fn rd post) (H : List HProp) (b off sz n cap : Nat) (xs : List Value) [h : RSB C b off sz n cap xs] : SlAt C H b off sz n cap xs :=
  ⟨fun w _ _ hf => by
    rcases h.rs.now hf with h' | ⟨h', _⟩
    · exact viewOf.mono (fun _ _ hb => hb.1) h'
    · have := h.pos; omega⟩
theorem RS.some {C : Ctx p fn rd post} {sz : Nat} {a : Option Addr} {n cap : Nat} {xs : List Value} (h : RS C sz a n cap xs) (hn : 0 < n) : ∃ b off, a = .some ⟨b, off, none⟩ ∧ RSB C b off sz n cap xs := by
  obtain ⟨b, off, _, _, rfl, _⟩ := h.blk hn
  exact ⟨b, off, rfl, ⟨h, hn⟩⟩

theorem viewOf.at {P : Nat → List Value → Prop} {sz b off n cap : Nat} {xs : List Value} (h : viewOf P sz (some ⟨b, off, none⟩) n cap xs) : ∃ pre rest, pre.length = off ∧ P b (pre ++ (xs ++ rest)) := by
  obtain ⟨_, _, _, pre, rest, hp, hb, _⟩ := h; exact ⟨pre, rest, hp, hb⟩

theorem partF_mid {i : TI} {pre xs rest : List Value} {j : Nat} {v : Value} (h : partF i xs j = some v) : partF i (pre ++ (xs ++ rest)) (pre.length + j) = some v := by
  unfold partF at h ⊢
  cases ha : i.agg with
  | true =>
    simp only [ha, cond_true] at h ⊢
    cases hd : dropF j xs with
    | none => simp [hd] at h
    | some d =>
      cases ht : takeF i.size d with
      | none => simp [hd, ht] at h
      | some c =>
        simp [hd, ht] at h
        obtain ⟨rfl, h1⟩ := dropF_eq hd
        obtain ⟨rfl, h2⟩ := takeF_eq ht
        have mk : ∀ (n : Nat) (l : List Value), n ≤ l.length → dropF n l = some (l.drop n) := by
          intro n
          induction n with
          | zero => intro l _; rfl
          | succ n ih => intro l hl; cases l with
            | nil => simp at hl
            | cons x l => simp only [dropF]; simpa using ih l (by simpa using hl)
        have mt : ∀ (n : Nat) (l : List Value), n ≤ l.length → takeF n l = some (l.take n) := by
          intro n
          induction n with
          | zero => intro l _; simp [takeF]
          | succ n ih => intro l hl; cases l with
            | nil => simp at hl
            | cons x l => simp only [takeF]; rw [ih l (by simpa using hl)]; rfl
        simp only [List.length_drop] at h2
        rw [mk _ _ (by simp; omega)]
        simp only []
        have e : (pre ++ (xs ++ rest)).drop (pre.length + j) = xs.drop j ++ rest := by
          rw [List.drop_append, List.drop_eq_nil_of_le (by omega), List.nil_append, Nat.add_sub_cancel_left, List.drop_append_of_le_length h1]
        rw [e, mt _ _ (by simp; omega)]
        simp only [List.take_append_of_le_length (show i.size ≤ (xs.drop j).length by simp; omega)]
        rw [← h]
  | false =>
    simp only [ha, cond_false] at h ⊢
    rw [List.getElem?_append_right (by omega), Nat.add_sub_cancel_left, List.getElem?_append_left]
    · exact h
    · rcases Nat.lt_or_ge j xs.length with h' | h'
      · exact h'
      · rw [List.getElem?_eq_none h'] at h; contradiction

/-- A cell of an element. -/
theorem xldl {o : Oper} {d : Tmp} {v : Value} {b off off' n cap sz : Nat} {i : TI} {xs : List Value} (hop : ldO p.tt L o.op = some (b, off', i)) [hb : SlAt C H b off sz n cap xs] (j : Nat) (hv : partF i xs j = some v)
    (k : G C (.ops all l :: K) ((d, v) :: L) H) (hj : off' = off + j := by rfl) (hg : guardV all L o.guard = some true := by rfl) (hd : o.dst = some d := by rfl) (hn : Nat.blt d fn.ntmps = true := by rfl) : G C (.ops all (o :: l) :: K) L H := by
  refine G.val1 hg hd (Nat.le_of_ble_eq_true hn) (fun a w F ha hs hf => ⟨w, F, ?_, hs, hf⟩) k
  obtain ⟨pre, rest, hp, hbl⟩ := (hb.view w F hs hf).at
  obtain ⟨dst, op, ty, pos, after, guard⟩ := o
  obtain ⟨t, x, rfl, ht, hx⟩ := ldO_inv hop
  have := loadVar_run (p.ok t i ht) hbl (partF_mid (pre := pre) (rest := rest) hv)
  rw [hp, ← hj] at this
  simp [execOp, ha.eval hx, Instr.loadAt, Instr.sureAddr, this]

/-- A whole element that is a struct or an array. -/
theorem xldla {o : Oper} {d : Tmp} {b off off' n cap sz : Nat} {i : TI} {xs : List Value} (hop : ldO p.tt L o.op = some (b, off', i)) [hb : SlAt C H b off sz n cap xs] (j : Nat) (vs : List Value) (hagg : i.agg = true) (hv : (xs.drop j).take i.size = vs) (hl : j + i.size ≤ xs.length)
    (k : G C (.ops all l :: K) ((d, .agg vs.toArray) :: L) H) (hj : off' = off + j := by rfl) (hg : guardV all L o.guard = some true := by rfl) (hd : o.dst = some d := by rfl) (hn : Nat.blt d fn.ntmps = true := by rfl) : G C (.ops all (o :: l) :: K) L H := by
  refine G.val1 hg hd (Nat.le_of_ble_eq_true hn) (fun a w F ha hs hf => ⟨w, F, ?_, hs, hf⟩) k
  obtain ⟨pre, rest, hp, hbl⟩ := (hb.view w F hs hf).at
  obtain ⟨dst, op, ty, pos, after, guard⟩ := o
  obtain ⟨t, x, rfl, ht, hx⟩ := ldO_inv hop
  have hi := p.ok t i ht
  have hlc := loadCells_run (P := p.P) hbl off' i.size (by simp; omega)
  have e : ((pre ++ (xs ++ rest)).drop off').take i.size = vs := by
    rw [hj, ← hp, List.drop_append, List.drop_eq_nil_of_le (by omega), List.nil_append, Nat.add_sub_cancel_left, List.drop_append_of_le_length (by omega), List.take_append_of_le_length (by simp; omega), hv]
  rw [e] at hlc
  simp [execOp, ha.eval hx, Instr.loadAt, Instr.sureAddr, loadVar, run_isAgg hi, hagg, run_sizeOf hi, hlc]

/-- The owned slice in the block 'b' is put anew. -/
class UpdS (H : List HProp) (b : Nat) (off sz n cap : outParam Nat) (xs : outParam (List Value)) (mk : outParam (List Value → List HProp)) : Prop where
  get : ∀ w F, Sat H w F → ∃ F1 F2 : Foot, (sl sz (some ⟨b, off, none⟩) n cap xs).holds w F1 ∧ (∀ c, F1 c → F c) ∧ (∀ c, F1 c → ¬ F2 c) ∧
    ∀ w' xs', (∀ c, F2 c → w'.heap[c]? = w.heap[c]?) → (sl sz (some ⟨b, off, none⟩) n cap xs').holds w' F1 → Sat (mk xs') w' F
instance UpdS.here (b off sz n cap : Nat) (xs : List Value) (H : List HProp) : UpdS (sl sz (some ⟨b, off, none⟩) n cap xs :: H) b off sz n cap xs (fun xs' => sl sz (some ⟨b, off, none⟩) n cap xs' :: H) :=
  ⟨fun _ _ ⟨F1, F2, h1, h2, hd, ha, hb⟩ => ⟨F1, F2, h1, ha, hd, fun _ _ hw h => ⟨F1, F2, h, h2.loc hw, hd, ha, hb⟩⟩⟩
instance (priority := low) UpdS.there (x : HProp) (b off sz n cap : Nat) (xs : List Value) (H : List HProp) (mk : List Value → List HProp) [u : UpdS H b off sz n cap xs mk] : UpdS (x :: H) b off sz n cap xs (fun xs' => x :: mk xs') :=
  ⟨fun w F ⟨F1, F2, h1, h2, hd, ha, hb⟩ => by
    obtain ⟨G1, G2, g1, ga, gd, gs⟩ := u.get w F2 h2
    refine ⟨G1, fun c => F1 c ∨ G2 c, g1, fun c hc => hb c (ga c hc), ?_, ?_⟩
    · rintro c hc (h | h)
      · exact hd c h (ga c hc)
      · exact gd c hc h
    · intro w' xs' hw h
      exact ⟨F1, F2, x.loc w w' F1 (fun c hc => hw c (.inl hc)) h1, gs w' xs' (fun c hc => hw c (.inr hc)) h, hd, ha, hb⟩⟩

/-- A store into an element. -/
theorem xstl {o : Oper} {b off off' n cap sz : Nat} {xs cs : List Value} {mk : List Value → List HProp} (hop : stO p.tt L o.op = some (b, off', cs)) [pk : UpdS H b off sz n cap xs mk] (j : Nat) (xs' : List Value) (hx : xs.take j ++ cs ++ xs.drop (j + cs.length) = xs') (hl : j + cs.length ≤ xs.length)
    (k : G C (.ops all l :: K) L (mk xs')) (hj : off' = off + j := by rfl) (hg : guardV all L o.guard = some true := by rfl) (hd : o.dst = none := by rfl) : G C (.ops all (o :: l) :: K) L H := by
  refine G.raw hg fun a w F ha hs hf => ?_
  obtain ⟨F1, F2, ⟨h1, h2, h3, pre, rest, hp, ⟨hb, ho⟩, hc⟩, hF1, hdis, hset⟩ := pk.get w F hs
  simp only at hp hb ho
  obtain ⟨w', hr, g1, g2⟩ := stO_run p.ok ha hop ho (by simp; omega)
  simp only [Oper.wp, hr, Oper.upon_skip, hd]
  refine k _ w' F ha (hset w' xs' (fun c hc => g2.other c (fun e => by subst e; exact hdis _ hb hc)) ⟨?_, h2, h3, pre, rest, hp, ⟨hb, ?_⟩, ?_⟩) (g2.fr hf (hF1 _ hb))
  · rw [← hx]; simp; omega
  · have e : (pre ++ (xs ++ rest)).take off' ++ cs ++ (pre ++ (xs ++ rest)).drop (off' + cs.length) = pre ++ (xs' ++ rest) := by
      rw [hj, ← hp, ← hx, List.take_append, List.take_of_length_le (by omega), Nat.add_sub_cancel_left, List.take_append_of_le_length (by omega), List.drop_append, List.drop_eq_nil_of_le (by omega), Nat.add_assoc, Nat.add_sub_cancel_left,
        List.drop_append_of_le_length (by omega)]
      simp [List.append_assoc]
    rw [e] at g1; exact g1
  · rw [← hx]; simp; omega
end

/-! ## Lists of structs, laid flat -/
theorem flat_length {α : Type} {enc : α → List Value} {s : Nat} (he : ∀ x, (enc x).length = s) : ∀ l : List α, (l.flatMap enc).length = l.length * s
  | [] => by simp
  | x :: l => by rw [List.flatMap_cons, List.length_append, he, flat_length he l, List.length_cons, Nat.succ_mul]; omega
theorem flat_drop {α : Type} {enc : α → List Value} {s : Nat} (he : ∀ x, (enc x).length = s) : ∀ (l : List α) (k : Nat), (l.flatMap enc).drop (k * s) = (l.drop k).flatMap enc
  | l, 0 => by simp
  | [], k + 1 => by simp
  | x :: l, k + 1 => by
    rw [List.flatMap_cons, List.drop_succ_cons, ← flat_drop he l k, Nat.succ_mul, Nat.add_comm, List.drop_append, he, List.drop_eq_nil_of_le (by rw [he]; omega), List.nil_append, Nat.add_sub_cancel_left]
theorem flat_take {α : Type} {enc : α → List Value} {s : Nat} (he : ∀ x, (enc x).length = s) : ∀ (l : List α) (k : Nat), (l.flatMap enc).take (k * s) = (l.take k).flatMap enc
  | l, 0 => by simp
  | [], k + 1 => by simp
  | x :: l, k + 1 => by
    rw [List.flatMap_cons, List.take_succ_cons, List.flatMap_cons, ← flat_take he l k, Nat.succ_mul, Nat.add_comm, List.take_append, he, List.take_of_length_le (by rw [he]; omega), Nat.add_sub_cancel_left]
theorem flat_elem {α : Type} {enc : α → List Value} {s : Nat} (he : ∀ x, (enc x).length = s) (l : List α) (k : Nat) (hk : k < l.length) : ((l.flatMap enc).drop (k * s)).take s = enc l[k] := by
  rw [flat_drop he, List.drop_eq_getElem_cons hk, List.flatMap_cons, List.take_append_of_le_length (by rw [he]; exact Nat.le_refl _), List.take_of_length_le (by rw [he]; exact Nat.le_refl _)]
theorem flat_get {α : Type} {enc : α → List Value} {s : Nat} (he : ∀ x, (enc x).length = s) (l : List α) (k f : Nat) (hk : k < l.length) (hf : f < s) : (l.flatMap enc)[k * s + f]? = (enc l[k])[f]? := by
  rw [← List.getElem?_drop, flat_drop he, List.drop_eq_getElem_cons hk, List.flatMap_cons, List.getElem?_append_left (by rw [he]; exact hf)]
theorem flat_set {α : Type} {enc : α → List Value} {s : Nat} (he : ∀ x, (enc x).length = s) (l : List α) (k : Nat) (hk : k < l.length) (x : α) :
    (l.flatMap enc).take (k * s) ++ enc x ++ (l.flatMap enc).drop (k * s + s) = (l.set k x).flatMap enc := by
  rw [flat_take he, show k * s + s = (k + 1) * s by rw [Nat.succ_mul], flat_drop he, List.set_eq_take_append_cons_drop, if_pos hk, List.flatMap_append, List.flatMap_cons, List.append_assoc]

/-! ## Bytes -/
def bV (x : UInt8) : Value := .int .u8 (x.toNat : Int)
def bsV (l : List UInt8) : List Value := l.map bV
theorem bsV_length (l : List UInt8) : (bsV l).length = l.length := by simp [bsV]
theorem bsV_get {l : List UInt8} {k : Nat} (h : k < l.length) : (bsV l)[k]? = some (bV l[k]) := by simp [bsV, h]
theorem bsV_append (l m : List UInt8) : bsV (l ++ m) = bsV l ++ bsV m := by simp [bsV]
theorem bsV_one (l : List UInt8) : ∀ v ∈ bsV l, v.oneCell' = true := by
  intro v hv
  obtain ⟨x, _, rfl⟩ := List.mem_map.1 hv
  rfl
theorem bsV_take (l : List UInt8) (k : Nat) : (bsV l).take k = bsV (l.take k) := by simp [bsV, List.map_take]
theorem bsV_drop (l : List UInt8) (k : Nat) : (bsV l).drop k = bsV (l.drop k) := by simp [bsV, List.map_drop]
theorem bsV_inj {l m : List UInt8} (h : bsV l = bsV m) : l = m := by
  induction l generalizing m with
  | nil => cases m with
    | nil => rfl
    | cons y m => simp [bsV] at h
  | cons x l ih => cases m with
    | nil => simp [bsV] at h
    | cons y m =>
      simp only [bsV, List.map_cons, List.cons.injEq, bV, Value.int.injEq, true_and] at h
      have := UInt8.toNat_inj.1 (Int.natCast_inj.1 h.1)
      rw [this, ih h.2]

/-- The k-th of a row that is filled from the left. -/
theorem fill_row {ys : List Value} {z : Value} {m k : Nat} {v : Value} (hl : ys.length = m) (hk : k < m) (hv : ys[k]? = some v) :
    (ys.take k ++ zeros (m - k) [z]).take k ++ [v] ++ (ys.take k ++ zeros (m - k) [z]).drop (k + 1) = ys.take (k + 1) ++ zeros (m - (k + 1)) [z] := by
  have h1 : (ys.take k).length = k := by simp; omega
  rw [List.take_append_of_le_length (by omega), List.take_take, Nat.min_self, List.drop_append, List.drop_eq_nil_of_le (by omega), h1, show k + 1 - k = 1 by omega, List.nil_append]
  have h2 : ys.take (k + 1) = ys.take k ++ [v] := by
    rw [List.take_add_one, hv]; rfl
  rw [h2]
  congr 1
  simp only [zeros]
  rw [show m - k = (m - (k + 1)) + 1 by omega, List.replicate_succ]
  rfl
theorem fill_len {ys : List Value} {z : Value} {m k : Nat} (hl : ys.length = m) (hk : k ≤ m) : (ys.take k ++ zeros (m - k) [z]).length = m := by
  rw [List.length_append, List.length_take, zeros_length]; simp; omega
theorem u8_wrap (n : Nat) : IntKind.u8.wrap (n : Int) = ((UInt8.ofNat n).toNat : Int) := by
  simp only [IntKind.wrap, IntKind.signed, IntKind.bits, Bool.false_and, Bool.false_eq_true, if_false]
  rw [UInt8.toNat_ofNat']
  omega
theorem u64_wrap {n : Nat} (h : n < 18446744073709551616) : IntKind.u64.wrap (n : Int) = n := wrap_in (k := .u64) ⟨by omega, by omega⟩
theorem u64_or {a b : Nat} (ha : a < 18446744073709551616) (hb : b < 18446744073709551616) : IntKind.u64.wrap ((BitVec.ofInt IntKind.u64.bits (a : Int) ||| BitVec.ofInt IntKind.u64.bits (b : Int)).toNat : Int) = ((a ||| b : Nat) : Int) := by
  have e : (BitVec.ofInt IntKind.u64.bits (a : Int) ||| BitVec.ofInt IntKind.u64.bits (b : Int)).toNat = a ||| b := by
    rw [BitVec.toNat_or]
    simp only [IntKind.bits, BitVec.ofInt_natCast, BitVec.toNat_ofNat]
    rw [Nat.mod_eq_of_lt ha, Nat.mod_eq_of_lt hb]
  rw [e]
  exact u64_wrap (Nat.or_lt_two_pow (n := 64) ha hb)
end Go.W

/- More of slices that are read. -/
namespace Go.W
section
variable {p : Pg} {fn : Func} {rd : List HProp} {post : Post} {C : Ctx p fn rd post} {all : Array Oper} {l : List Oper} {K : List It} {L : Env} {H : List HProp}
theorem RS.subB {C : Ctx p fn rd post} {a : Option Addr} {n cap : Nat} {bs : List UInt8} (h : RS C 1 a n cap (bsV bs)) {k m : Nat} (hk : k ≤ m) (hm : m ≤ n) :
    RS C 1 (subA a k 1 cap) (m - k) (cap - k) (bsV ((bs.drop k).take (m - k))) := by
  have := h.sub hk hm
  rwa [Nat.mul_one, Nat.mul_one, bsV_drop, bsV_take] at this
instance RdOk.nil (C : Ctx p fn rd post) (H : List HProp) (sz : Nat) : RdOk C H (slR sz none 0 0 []) :=
  ⟨fun w F Fk hs hF hf => ⟨fun _ => False, .inl ⟨by simp, Nat.le_refl _, rfl⟩, fun _ h => h.elim, fun _ h => h.elim⟩⟩
instance RdOk.nilB (C : Ctx p fn rd post) (H : List HProp) : RdOk C H (slR 1 none 0 0 (bsV [])) := RdOk.nil C H 1
/-- What is known of the owned slice at a place. -/
theorem xslf (i : Nat) {sz : Nat} {a : Option Addr} {n cap : Nat} {xs : List Value} {R : List HProp} (hH : remN H i = some (sl sz a n cap xs, R))
    (k : xs.length = n * sz → n ≤ cap → (0 < cap → ∃ b off, a = some ⟨b, off, none⟩) → G C K L H) : G C K L H :=
  G.slf (pk := ⟨remN_ent hH⟩) k
end
end Go.W

/- Elements of values; 32-bit words. -/
namespace Go.W

/-! ## x[i] of a value -/
/-- An array's element: the array's cells, its length, the element's form, the place. -/
def ipO (tt : TypeId → Option TI) (L : Env) (o : Op) : Option (List Value × Nat × TI × Int) :=
  match o with
  | .index t x ix => (tt t).bind fun i => (evalO L x).bind fun a => (evalO L ix).bind fun v => match i.k, a, v with
    | .arr n e, .agg cs, .int _ k => (tt e).map fun j => (cs.toList, n, j, k)
    | _, _, _ => none
  | _ => none
theorem ipO_run {P : Program} {w : World} {tt : TypeId → Option TI} (ok : ∀ t i, tt t = some i → TIok P t i) {L : Env} {a : Act} {n : Nat} (ha : Agr n L a) {o : Oper} {cs : List Value} {m : Nat} {e : TI} {k : Int}
    (h : ipO tt L o.op = some (cs, m, e, k)) (h0 : 0 ≤ k) (hk : k < m) {v : Value} (hv : partF e cs (k.toNat * e.size) = some v) : (execOp a.eval o).run P w = .ok (.value v) w := by
  obtain ⟨dst, op, ty, pos, after, guard⟩ := o
  unfold ipO at h
  split at h
  · rename_i t x ix hop
    simp only at hop; subst hop
    cases ht : tt t with
    | none => simp [ht] at h
    | some i =>
      cases hx : evalO L x with
      | none => simp [ht, hx] at h
      | some u =>
        cases hv' : evalO L ix with
        | none => simp [ht, hx, hv'] at h
        | some q =>
          simp only [ht, hx, hv', Option.bind_some] at h
          have hd := (ok t i ht).desc
          split at h
          · rename_i n' e' cs' kk k' hk'
            rw [hk'] at hd
            cases he : tt e' with
            | none => simp [he] at h
            | some j =>
              simp [he] at h
              obtain ⟨rfl, rfl, rfl, rfl⟩ := h
              have := partF_run (P := P) (w := w) (ok e' j he) hv
              simp only [Array.toArray_toList] at this
              simp [execOp, Instr.index, ha.eval hx, ha.eval hv', asIntOf, run_underlying hd, h0, hk, run_sizeOf (ok e' j he), this]
          · contradiction
  · contradiction
/-- A string's byte. -/
def isO (L : Env) (o : Op) : Option (TypeId × ByteArray × Int) :=
  match o with
  | .index t x ix => (evalO L x).bind fun a => (evalO L ix).bind fun v => match a, v with
    | .string s, .int _ k => some (t, s, k)
    | _, _ => none
  | _ => none
theorem isO_run {P : Program} {w : World} {tt : TypeId → Option TI} (ok : ∀ t i, tt t = some i → TIok P t i) {L : Env} {a : Act} {n : Nat} (ha : Agr n L a) {o : Oper} {t : TypeId} {i : TI} {s : ByteArray} {k : Int}
    (h : isO L o.op = some (t, s, k)) (ht : tt t = some i) (hi : i.k = .string) (j : Nat) (hj : k = j) {b : UInt8} (hb : s[j]? = some b) : (execOp a.eval o).run P w = .ok (.value (.int .u8 b.toNat)) w := by
  subst hj
  obtain ⟨dst, op, ty, pos, after, guard⟩ := o
  unfold isO at h
  split at h
  · rename_i t' x ix hop
    simp only at hop; subst hop
    cases hx : evalO L x with
    | none => simp [hx] at h
    | some u =>
      cases hv' : evalO L ix with
      | none => simp [hx, hv'] at h
      | some q =>
        simp only [hx, hv', Option.bind_some] at h
        split at h
        · rename_i s' kk k'
          simp only [Option.some.injEq, Prod.mk.injEq] at h
          obtain ⟨rfl, rfl, rfl⟩ := h
          have hd := (ok _ i ht).desc
          rw [hi] at hd
          simp [execOp, Instr.index, ha.eval hx, ha.eval hv', asIntOf, run_underlying hd, hb]
        · contradiction
  · contradiction

def hasS : Env → Nat → Bool
  | [], _ => false
  | (e, _) :: L, d => bif Nat.beq d e then true else hasS L d
section
variable {p : Pg} {fn : Func} {rd : List HProp} {post : Post} {C : Ctx p fn rd post} {all : Array Oper} {l : List Oper} {K : List It} {L : Env} {H : List HProp}
/-- A slot that is not yet known. -/
theorem xnot (d : Nat) (k : G C K L H) (_ : hasS L d = false := by rfl) : G C K L H := k
/-- An element of an array that is a value. -/
theorem xpart {o : Oper} {d : Tmp} {cs : List Value} {m : Nat} {e : TI} {k : Int} {v : Value} (hop : ipO p.tt L o.op = some (cs, m, e, k)) (j : Nat) (hj : k = j) (hk : j < m) (hv : partF e cs (j * e.size) = some v)
    (g : G C (.ops all l :: K) ((d, v) :: L) H) (hg : guardV all L o.guard = some true := by rfl) (hd : o.dst = some d := by rfl) (hn : Nat.blt d fn.ntmps = true := by rfl) : G C (.ops all (o :: l) :: K) L H := by
  subst hj
  exact G.val1 hg hd (Nat.le_of_ble_eq_true hn) (fun a w F ha hs hf => ⟨w, F, ipO_run p.ok ha hop (by omega) (by omega) hv, hs, hf⟩) g
/-- A byte of a string. -/
theorem xsix {o : Oper} {d : Tmp} {t : TypeId} {i : TI} {s : ByteArray} {k : Int} {b : UInt8} (hop : isO L o.op = some (t, s, k)) (ht : p.tt t = some i) (hi : i.k = .string) (j : Nat) (hj : k = j) (hb : s[j]? = some b)
    (g : G C (.ops all l :: K) ((d, bV b) :: L) H) (hg : guardV all L o.guard = some true := by rfl) (hd : o.dst = some d := by rfl) (hn : Nat.blt d fn.ntmps = true := by rfl) : G C (.ops all (o :: l) :: K) L H :=
  G.val1 hg hd (Nat.le_of_ble_eq_true hn) (fun _a w F ha hs hf => ⟨w, F, isO_run p.ok ha hop ht hi j hj hb, hs, hf⟩) g
end

/-! ## 32-bit words -/
def wV (x : UInt32) : Value := .int .u32 (x.toNat : Int)
def wsV (l : List UInt32) : List Value := l.map wV
theorem wsV_length (l : List UInt32) : (wsV l).length = l.length := by simp [wsV]
theorem wsV_get {l : List UInt32} {k : Nat} (h : k < l.length) : (wsV l)[k]? = some (wV l[k]) := by simp [wsV, h]
theorem wsV_append (l m : List UInt32) : wsV (l ++ m) = wsV l ++ wsV m := by simp [wsV]

theorem w_wrap (n : Nat) : IntKind.u32.wrap (n : Int) = ((UInt32.ofNat n).toNat : Int) := by
  simp only [IntKind.wrap, IntKind.signed, IntKind.bits, Bool.false_and, Bool.false_eq_true, if_false]
  rw [UInt32.toNat_ofNat']
  omega
theorem w_bits (x : UInt32) : BitVec.ofInt 32 (x.toNat : Int) = x.toBitVec := by
  apply BitVec.eq_of_toNat_eq
  simp only [BitVec.ofInt_natCast, BitVec.toNat_ofNat]
  have := x.toNat_lt
  rw [Nat.mod_eq_of_lt this]; rfl
theorem w_of (x : UInt32) : UInt32.ofNat x.toNat = x := by simp
theorem w_add (x y : UInt32) : IntKind.u32.wrap ((x.toNat : Int) + (y.toNat : Int)) = ((x + y).toNat : Int) := by
  rw [← Int.natCast_add, w_wrap]; simp
theorem w_xor (x y : UInt32) : IntKind.u32.wrap ((BitVec.ofInt IntKind.u32.bits (x.toNat : Int) ^^^ BitVec.ofInt IntKind.u32.bits (y.toNat : Int)).toNat : Int) = ((x ^^^ y).toNat : Int) := by
  have h : (BitVec.ofInt 32 (x.toNat : Int) ^^^ BitVec.ofInt 32 (y.toNat : Int)).toNat = (x ^^^ y).toNat := by
    rw [w_bits, w_bits, ← UInt32.toBitVec_xor]; rfl
  refine (congrArg (fun n : Nat => IntKind.u32.wrap (n : Int)) h).trans ?_
  rw [w_wrap, w_of]
theorem w_and (x y : UInt32) : IntKind.u32.wrap ((BitVec.ofInt IntKind.u32.bits (x.toNat : Int) &&& BitVec.ofInt IntKind.u32.bits (y.toNat : Int)).toNat : Int) = ((x &&& y).toNat : Int) := by
  have h : (BitVec.ofInt 32 (x.toNat : Int) &&& BitVec.ofInt 32 (y.toNat : Int)).toNat = (x &&& y).toNat := by
    rw [w_bits, w_bits, ← UInt32.toBitVec_and]; rfl
  refine (congrArg (fun n : Nat => IntKind.u32.wrap (n : Int)) h).trans ?_
  rw [w_wrap, w_of]
theorem w_or (x y : UInt32) : IntKind.u32.wrap ((BitVec.ofInt IntKind.u32.bits (x.toNat : Int) ||| BitVec.ofInt IntKind.u32.bits (y.toNat : Int)).toNat : Int) = ((x ||| y).toNat : Int) := by
  have h : (BitVec.ofInt 32 (x.toNat : Int) ||| BitVec.ofInt 32 (y.toNat : Int)).toNat = (x ||| y).toNat := by
    rw [w_bits, w_bits, ← UInt32.toBitVec_or]; rfl
  refine (congrArg (fun n : Nat => IntKind.u32.wrap (n : Int)) h).trans ?_
  rw [w_wrap, w_of]
theorem w_not (x : UInt32) : IntKind.u32.wrap ((BitVec.ofInt IntKind.u32.bits (if IntKind.u32.signed then -1 else IntKind.u32.max) ^^^ BitVec.ofInt IntKind.u32.bits (x.toNat : Int)).toNat : Int) = ((~~~ x).toNat : Int) := by
  have h0 : BitVec.ofInt 32 (if IntKind.u32.signed then -1 else IntKind.u32.max) = BitVec.allOnes 32 := by rfl
  have h : (BitVec.ofInt 32 (if IntKind.u32.signed then -1 else IntKind.u32.max) ^^^ BitVec.ofInt 32 (x.toNat : Int)).toNat = (~~~ x).toNat := by
    rw [h0, w_bits, BitVec.allOnes_xor, ← UInt32.toBitVec_not]; rfl
  refine (congrArg (fun n : Nat => IntKind.u32.wrap (n : Int)) h).trans ?_
  rw [w_wrap, w_of]
/-- Shifts by a number below 32. -/
def wShl (x : UInt32) (n : Nat) : UInt32 := UInt32.ofNat (x.toNat * 2 ^ n)
def wShr (x : UInt32) (n : Nat) : UInt32 := UInt32.ofNat (x.toNat / 2 ^ n)
theorem w_shl (x : UInt32) (n : Nat) (h : n ≤ 32) : IntKind.u32.wrap ((x.toNat : Int) * 2 ^ (min n IntKind.u32.bits)) = ((wShl x n).toNat : Int) := by
  rw [show min n IntKind.u32.bits = n by simp [IntKind.bits]; omega, show ((2 : Int) ^ n) = ((2 ^ n : Nat) : Int) by rw [Int.natCast_pow]; rfl, ← Int.natCast_mul, w_wrap]; rfl
theorem wShr_toNat (x : UInt32) (n : Nat) : (wShr x n).toNat = x.toNat / 2 ^ n := by
  have := x.toNat_lt
  have h2 : x.toNat / 2 ^ n ≤ x.toNat := Nat.div_le_self _ _
  unfold wShr; rw [UInt32.toNat_ofNat', Nat.mod_eq_of_lt (by omega)]
theorem w_shr (x : UInt32) (n : Nat) (h : n ≤ 32) : ((x.toNat : Int).fdiv (2 ^ (min n IntKind.u32.bits))) = ((wShr x n).toNat : Int) := by
  rw [show min n IntKind.u32.bits = n by simp [IntKind.bits]; omega, show ((2 : Int) ^ n) = ((2 ^ n : Nat) : Int) by rw [Int.natCast_pow]; rfl, wShr_toNat, Int.ofNat_fdiv]
theorem w_u8 (x : UInt8) : IntKind.u32.wrap (x.toNat : Int) = ((UInt32.ofNat x.toNat).toNat : Int) := w_wrap _
/-- x >>> n, round. -/
def rotr (x : UInt32) (n : Nat) : UInt32 := wShl x (32 - n) ||| wShr x n
end Go.W

/- Stores and loads of what isn't written out. -/
namespace Go.W

theorem takeF_of : ∀ {n : Nat} {l : List Value}, n ≤ l.length → takeF n l = some (l.take n)
  | 0, l, _ => by simp [takeF]
  | n + 1, [], h => by simp at h
  | n + 1, v :: l, h => by simp only [takeF, takeF_of (n := n) (l := l) (by simpa using h), List.take_succ_cons]
theorem dropF_of : ∀ {n : Nat} {l : List Value}, n ≤ l.length → dropF n l = some (l.drop n)
  | 0, l, _ => by simp [dropF]
  | n + 1, [], h => by simp at h
  | n + 1, v :: l, h => by simp only [dropF, dropF_of (n := n) (l := l) (by simpa using h), List.drop_succ_cons]
/-- A part that is a struct or an array. -/
theorem partF_agg {i : TI} {l : List Value} {off : Nat} (ha : i.agg = true) (h : off + i.size ≤ l.length) : partF i l off = some (.agg ((l.drop off).take i.size).toArray) := by
  unfold partF
  rw [ha, cond_true, dropF_of (by omega)]
  simp only
  rw [takeF_of (by simp; omega)]
theorem partF_one {i : TI} {l : List Value} {off : Nat} {v : Value} (ha : i.agg = false) (h : l[off]? = some v) : partF i l off = some v := by
  unfold partF; rw [ha, cond_false, h]
theorem putF_of : ∀ {n : Nat} {vs l : List Value}, n + vs.length ≤ l.length → putF n vs l = some (l.take n ++ vs ++ l.drop (n + vs.length))
  | 0, [], l, _ => by cases l <;> simp [putF]
  | 0, v :: vs, [], h => by simp at h
  | 0, v :: vs, x :: l, h => by
    simp only [putF]
    rw [putF_of (n := 0) (vs := vs) (l := l) (by simp at h ⊢; omega)]
    simp
  | n + 1, vs, [], h => by simp at h
  | n + 1, vs, x :: l, h => by
    simp only [putF]
    rw [putF_of (n := n) (vs := vs) (l := l) (by simp at h; omega)]
    simp [show n + 1 + vs.length = (n + vs.length) + 1 by omega]
theorem putF_one {l : List Value} {n : Nat} {v : Value} (h : n < l.length) : putF n [v] l = some (l.set n v) := by
  rw [putF_of (by simp; omega)]
  congr 1
  rw [List.append_assoc, List.singleton_append, List.set_eq_take_append_cons_drop, if_pos h]
  rfl

theorem subA_lt {b off k sz cap : Nat} (h : k < cap) : subA (some ⟨b, off, none⟩) k sz cap = some ⟨b, off + k * sz, none⟩ := by
  unfold subA; rw [if_neg (by omega)]; simp [Addr.add_none]
/-- A store of a struct or an array. -/
def stV (tt : TypeId → Option TI) (L : Env) (o : Op) : Option (Nat × Nat × Nat × Value) :=
  match o with
  | .store t x y => (tt t).bind fun i => (evalO L x).bind fun a => (evalO L y).bind fun v => match a with
    | .pointer (some ⟨b, off, none⟩) => some (b, off, i.size, v)
    | _ => none
  | _ => none
theorem stV_run {P : Program} {tt : TypeId → Option TI} (ok : ∀ t i, tt t = some i → TIok P t i) {L : Env} {a : Act} {n : Nat} (ha : Agr n L a) {o : Oper} {b off sz : Nat} {cs : List Value}
    (h : stV tt L o.op = some (b, off, sz, .agg ⟨cs⟩)) (hsz : cs.length = sz) (hone : ∀ v ∈ cs, v.oneCell' = true) {w : World} {l : List Value} (ho : ownAt w b l) (hl : off + cs.length ≤ l.length) :
    ∃ w', (execOp a.eval o).run P w = .ok .skip w' ∧ ownAt w' b (l.take off ++ cs ++ l.drop (off + cs.length)) ∧ Wrote w b w' := by
  obtain ⟨dst, op, ty, pos, after, guard⟩ := o
  unfold stV at h
  split at h
  · rename_i t x y hop
    cases ht : tt t with
    | none => simp [ht] at h
    | some i =>
      cases hx : evalO L x with
      | none => simp [ht, hx] at h
      | some u =>
        cases hy : evalO L y with
        | none => simp [ht, hx, hy] at h
        | some v =>
          simp only [ht, hx, hy, Option.bind_some] at h
          split at h
          · simp only [Option.some.injEq, Prod.mk.injEq] at h
            obtain ⟨rfl, rfl, rfl, rfl⟩ := h
            obtain ⟨w', hr, h1, h2⟩ := storeVar_run (v := .agg ⟨cs⟩) (ok t i ht) ho hsz hone hl
            refine ⟨w', ?_, h1, h2⟩
            simp only at hop
            subst hop
            simp [execOp, ha.eval hx, ha.eval hy, Instr.storeAt, Instr.sureAddr, hr]
          · contradiction
  · contradiction
section
variable {p : Pg} {fn : Func} {rd : List HProp} {post : Post} {C : Ctx p fn rd post} {all : Array Oper} {l : List Oper} {K : List It} {L : Env} {H : List HProp}
theorem xsta {o : Oper} {b off sz : Nat} {cs m : List Value} {mk : List Value → List HProp} (hop : stV p.tt L o.op = some (b, off, sz, .agg ⟨cs⟩)) [hb : Upd H b m mk] (hsz : cs.length = sz) (hone : ∀ v ∈ cs, v.oneCell' = true)
    (m' : List Value) (hm : m.take off ++ cs ++ m.drop (off + cs.length) = m') (hl : off + cs.length ≤ m.length) (k : G C (.ops all l :: K) L (mk m')) (hg : guardV all L o.guard = some true := by rfl) (hd : o.dst = none := by rfl) : G C (.ops all (o :: l) :: K) L H := by
  refine G.raw hg fun a w F ha hs hf => ?_
  obtain ⟨ho, hF⟩ := hb.own w F hs
  obtain ⟨w', hr, h1, h2⟩ := stV_run p.ok ha hop hsz hone ho hl
  simp only [Oper.wp, hr, Oper.upon_skip, hd]
  rw [hm] at h1
  exact k _ w' F ha (hb.set w F w' m' hs h2.other h1) (h2.fr hf hF)
/-- An address under another spelling. -/
theorem xEp (d : Nat) {b off : Nat} (off' : Nat) (hl : look L d = some (.pointer (some ⟨b, off, none⟩))) (he : off = off') (k : G C K ((d, .pointer (some ⟨b, off', none⟩)) :: L) H) : G C K L H :=
  xE d _ hl (by rw [he]) k
/-- What is owned, under another spelling. -/
theorem xreH (i : Nat) {R : List HProp} {Y : HProp} (X' : HProp) (hH : remN H i = some (Y, R)) (he : Y = X') (k : G C K L (X' :: R)) : G C K L H := by
  subst he
  exact fun a w F ha hs hf => k a w F ha (remN_ent hH w F hs) hf
theorem xrep (i : Nat) {b : Nat} {cs : List Value} {R : List HProp} (cs' : List Value) (hH : remN H i = some (pts b cs, R)) (he : cs = cs') (k : G C K L (pts b cs' :: R)) : G C K L H := by
  subst he
  exact fun a w F ha hs hf => k a w F ha (remN_ent hH w F hs) hf
end
theorem wE {n : Int} {y : UInt32} (h : n = (y.toNat : Int)) : Value.int .u32 n = wV y := by subst h; rfl
theorem wsV_one (l : List UInt32) : ∀ v ∈ wsV l, v.oneCell' = true := by
  intro v hv; obtain ⟨x, _, rfl⟩ := List.mem_map.1 hv; rfl
/-- A row of one kind of cells, as it fills. -/
theorem fill_set {ys : List Value} {z : Value} {m k : Nat} {v : Value} (hl : ys.length = k) (hk : k < m) : (ys ++ zeros (m - k) [z]).set k v = (ys ++ [v]) ++ zeros (m - (k + 1)) [z] := by
  subst hl
  rw [List.set_append_right _ _ (Nat.le_refl _), Nat.sub_self, List.append_assoc]
  congr 1
  rw [show m - ys.length = 1 + (m - (ys.length + 1)) by omega, zeros_add]
  rfl
end Go.W

/- Results that stand in memory. -/
namespace Go.W
theorem partF_all {i : TI} {l : List Value} (ha : i.agg = true) (h : l.length = i.size) : partF i l 0 = some (.agg l.toArray) := by
  rw [partF_agg ha (by omega), List.drop_zero, List.take_of_length_le (by omega)]
theorem put_all {m cs : List Value} (h : m.length = cs.length) : m.take 0 ++ cs ++ m.drop (0 + cs.length) = cs := by
  rw [List.drop_eq_nil_of_le (by omega)]; simp
section
variable {p : Pg} {fn : Func} {rd : List HProp} {post : Post} {C : Ctx p fn rd post} {all : Array Oper} {l : List Oper} {K : List It} {L : Env} {H : List HProp}
/-- What the results are. -/
structure ResM (C : Ctx p fn rd post) (H : List HProp) (L : Env) (rs : List ResultVar) (vs : List Value) : Prop where
  len : rs.length = vs.length
  ok : ∀ a w F, Agr fn.ntmps L a → Sat H w F → Fr C.w0 C.F0 w F → ∀ (i : Nat) r v, rs[i]? = some r → vs[i]? = some v → (resSem a.tmps r).run p.P w = .ok v w
theorem ResM.nil : ResM C H L [] [] := ⟨rfl, fun _ _ _ _ _ _ i r v h _ => by simp at h⟩
theorem ResM.t {t : Tmp} {v : Value} {rs : List ResultVar} {vs : List Value} (k : ResM C H L rs vs) (hl : look L t = some v := by rfl) : ResM C H L (.tmp t :: rs) (v :: vs) := by
  refine ⟨by simp [k.len], fun a w F ha hs hf i r u hr hv => ?_⟩
  cases i with
  | zero => simp at hr hv; subst hr; subst hv; simp [resSem, Array.getD_eq_getD_getElem?, ha.cell t v hl]
  | succ i => exact k.ok a w F ha hs hf i r u (by simpa using hr) (by simpa using hv)
theorem ResM.c {t : Tmp} {T : TypeId} {b off : Nat} {i : TI} {cs : List Value} {v : Value} {rs : List ResultVar} {vs : List Value} (k : ResM C H L rs vs) (hl : look L t = some (.pointer (some ⟨b, off, none⟩))) (ht : p.tt T = some i) [hb : Blk C H b cs]
    (hv : partF i cs off = some v) : ResM C H L (.cell t T :: rs) (v :: vs) := by
  refine ⟨by simp [k.len], fun a w F ha hs hf j r u hr hv' => ?_⟩
  cases j with
  | zero =>
    simp at hr hv'; subst hr; subst hv'
    have := loadVar_run (p.ok T i ht) (hb.blk w F hs hf) hv
    simp [resSem, Array.getD_eq_getD_getElem?, ha.cell t _ hl, asAddr, this]
  | succ j => exact k.ok a w F ha hs hf j r u (by simpa using hr) (by simpa using hv')
theorem G.retM {rs : List ResultVar} {vs : List Value} (hr : fn.results = rs.toArray) (hv : ResM C H L rs vs) (H' : List HProp) (hp : post (resV vs) H') (hH : Ent H H') : G C (.code .ret :: K) L H := by
  intro a w F ha hs hf
  have hb : bodyPost p.P fn (Res C.w0 C.F0 post) .ret a w := ⟨ha.defers, _, results_run' hr hv.len (hv.ok a w F ha hs hf), _, H', F, rfl, hp, hH w F hs, hf⟩
  have : ∀ K, sem C K .ret a w := by
    intro K
    induction K with
    | nil => exact hb
    | cons x K ih => cases x <;> exact ih
  exact wp_ret (this K)
/-- A whole block, as a slice. -/
theorem xslc (i sz n : Nat) (xs : List Value) {b : Nat} {cs : List Value} {R : List HProp} (hH : remN H i = some (pts b cs, R)) (he : cs = xs) (hx : xs.length = n * sz) (k : G C K L (sl sz (some ⟨b, 0, none⟩) n n xs :: R)) : G C K L H := by
  subst he
  exact G.slc (pk := ⟨remN_ent hH⟩) sz b 0 n n cs [] [] (by simp) rfl hx (Nat.le_refl _) (by simp [hx]) k
/-- The end, with results in memory. -/
theorem xretm (ns : List Nat) {rs : List ResultVar} {vs : List Value} {H' R : List HProp} (hr : fn.results = rs.toArray) (hv : ResM C H L rs vs) (hp : post (resV vs) H') (hH : pickN H ns = some (H', R) := by rfl) : G C (.code .ret :: K) L H :=
  G.retM hr hv H' hp (Pick.toEnt (R := R) ⟨pickN_ent hH⟩)
end
end Go.W

/- Structs that are put together out of what isn't written out. -/
namespace Go.W
theorem forceN_some : ∀ (n : Nat) (l : List Value), forceN n l = some l
  | 0, l => by simp [forceN]
  | n + 1, [] => by simp [forceN]
  | n + 1, v :: l => by simp [forceN, forceN_some n l]
theorem fillF_cons {place : Nat → Option (Nat × Nat)} {i off size : Nat} {v : Value} {cells r : List Value} {rest : List (Nat × Value)} (hp : place i = some (off, size)) (hl : (cellsL v).length = size) (hroom : off + size ≤ cells.length)
    (h : fillF place (cells.take off ++ cellsL v ++ cells.drop (off + size)) rest = some r) : fillF place cells ((i, v) :: rest) = some r := by
  subst hl
  unfold fillF
  rw [hp]
  simp only
  rw [Nat.beq_refl, cond_true, putF_of hroom]
  exact h
def buildO (tt : TypeId → Option TI) (L : Env) (o : Op) : Option (List (Nat × Nat) × List Value × List (Nat × Value)) :=
  match o with
  | .build t ps => (tt t).bind fun i => match i.k with
    | .str fs => (placesOf tt fs).bind fun pl => (evalPs L ps.toList).map fun vs => (pl, i.zero, vs)
    | _ => none
  | _ => none
theorem buildO_opVal {tt : TypeId → Option TI} {L : Env} {o : Op} {pl : List (Nat × Nat)} {zero l : List Value} {vs : List (Nat × Value)} (h : buildO tt L o = some (pl, zero, vs)) (hl : fillF (pl[·]?) zero vs = some l) :
    opVal tt L o = some (.agg l.toArray) := by
  unfold buildO at h
  split at h
  · rename_i t ps
    cases ht : tt t with
    | none => simp [ht] at h
    | some i =>
      simp only [ht, Option.bind_some] at h
      split at h
      · rename_i fs hk
        cases hp : placesOf tt fs with
        | none => simp [hp] at h
        | some pl' =>
          cases hv : evalPs L ps.toList with
          | none => simp [hp, hv] at h
          | some vs' =>
            simp only [hp, hv, Option.bind_some, Option.map_some, Option.some.injEq, Prod.mk.injEq] at h
            obtain ⟨rfl, rfl, rfl⟩ := h
            simp only [opVal, hv, Option.bind_some, buildF, ht, hk, hp, hl, forceN_some, Option.map_some]
      · contradiction
  · contradiction
section
variable {p : Pg} {fn : Func} {rd : List HProp} {post : Post} {C : Ctx p fn rd post} {all : Array Oper} {l : List Oper} {K : List It} {L : Env} {H : List HProp}
theorem xbuild {o : Oper} {d : Tmp} {pl : List (Nat × Nat)} {zero : List Value} {vs : List (Nat × Value)} (r : List Value) (hop : buildO p.tt L o.op = some (pl, zero, vs)) (hl : fillF (pl[·]?) zero vs = some r)
    (k : G C (.ops all l :: K) ((d, .agg r.toArray) :: L) H) (hg : guardV all L o.guard = some true := by rfl) (hd : o.dst = some d := by rfl) (hn : Nat.blt d fn.ntmps = true := by rfl) : G C (.ops all (o :: l) :: K) L H :=
  xop k (buildO_opVal hop hl) hg hd hn
theorem xdbuild {f : Nat} (i : Nat) {listed listed' : List Bool} {J : Held} {o : Oper} {d : Tmp} {pl : List (Nat × Nat)} {zero : List Value} {vs : List (Nat × Value)} (r : List Value) (ho : all[i]? = some o) (hop : buildO p.tt L o.op = some (pl, zero, vs)) (hl : fillF (pl[·]?) zero vs = some r)
    (g : G C (anyI C all f listed' J K :: K) ((d, .agg r.toArray) :: L) H) (hok : firstOk all listed i = true := by kernel_rfl) (hset : setL i listed = some listed' := by rfl)
    (hg : guardV all L o.guard = some true := by rfl) (hd : o.dst = some d := by rfl) (hn : Nat.blt d fn.ntmps = true := by rfl) : G C (anyI C all (f + 1) listed J K :: K) L H :=
  xdop i g ho hok hset (buildO_opVal hop hl) hg hd hn
end
end Go.W

/- '==' of arrays and structs of whole numbers. -/
namespace Go.W

def valT (i : TI) (xs : List Value) : Value := bif i.agg then .agg ⟨xs⟩ else xs.headD undef
/-- Two rows of whole numbers, of one kind cell by cell. -/
def SameK : List Value → List Value → Prop
  | [], [] => True
  | x :: xs, y :: ys => (∃ k a b, x = .int k a ∧ y = .int k b) ∧ SameK xs ys
  | _, _ => False
theorem SameK.len : ∀ {xs ys : List Value}, SameK xs ys → xs.length = ys.length
  | [], [], _ => rfl
  | x :: xs, y :: ys, h => by simp [SameK.len h.2]
  | [], _ :: _, h => h.elim
  | _ :: _, [], h => h.elim
theorem SameK.drop : ∀ {xs ys : List Value} (n : Nat), SameK xs ys → SameK (xs.drop n) (ys.drop n)
  | xs, ys, 0, h => h
  | [], [], n + 1, h => by simp; trivial
  | x :: xs, y :: ys, n + 1, h => by simpa using SameK.drop n h.2
  | [], _ :: _, n + 1, h => h.elim
  | _ :: _, [], n + 1, h => h.elim
theorem SameK.take : ∀ {xs ys : List Value} (n : Nat), SameK xs ys → SameK (xs.take n) (ys.take n)
  | xs, ys, 0, h => by simp; trivial
  | [], [], n + 1, h => by simp; trivial
  | x :: xs, y :: ys, n + 1, h => by simp only [List.take_succ_cons]; exact ⟨h.1, SameK.take n h.2⟩
  | [], _ :: _, n + 1, h => h.elim
  | _ :: _, [], n + 1, h => h.elim
theorem SameK.append : ∀ {xs ys us vs : List Value}, SameK xs ys → SameK us vs → SameK (xs ++ us) (ys ++ vs)
  | [], [], _us, _vs, _, h => h
  | _x :: _xs, _y :: _ys, _us, _vs, h, h' => ⟨h.1, SameK.append h.2 h'⟩
  | [], _ :: _, _, _, h, _ => h.elim
  | _ :: _, [], _, _, h, _ => h.elim
/-- Are two rows of whole numbers the same? -/
def eqIV : List Value → List Value → Bool
  | [], [] => true
  | .int _ a :: xs, .int _ b :: ys => decide (a = b) && eqIV xs ys
  | _, _ => false
theorem eqIV_iff : ∀ {xs ys : List Value}, SameK xs ys → (eqIV xs ys = true ↔ xs = ys)
  | [], [], _ => by simp [eqIV]
  | x :: xs, y :: ys, h => by
    obtain ⟨⟨k, a, b, rfl, rfl⟩, h2⟩ := h
    simp [eqIV, eqIV_iff h2]
  | [], _ :: _, h => h.elim
  | _ :: _, [], h => h.elim
theorem eqIV_append : ∀ {xs ys us vs : List Value}, SameK xs ys → eqIV (xs ++ us) (ys ++ vs) = (eqIV xs ys && eqIV us vs)
  | [], [], us, vs, _ => by simp [eqIV]
  | x :: xs, y :: ys, us, vs, h => by
    obtain ⟨⟨k, a, b, rfl, rfl⟩, h2⟩ := h
    simp [eqIV, eqIV_append h2, Bool.and_assoc]
  | [], _ :: _, _, _, h => h.elim
  | _ :: _, [], _, _, h => h.elim
def EqT (P : Program) (d : Nat) (t : TypeId) (i : TI) : Prop :=
  ∀ w xs ys, xs.length = i.size → ys.length = i.size → SameK xs ys → (Op.equalIn d t (valT i xs) (valT i ys)).run P w = .ok (eqIV xs ys) w

theorem part_val {P : Program} {w : World} {t : TypeId} {i : TI} (hi : TIok P t i) (hs : i.agg = true ∨ i.size = 1) {l : List Value} {off : Nat} (h : off + i.size ≤ l.length) :
    (part t l.toArray off).run P w = .ok (valT i ((l.drop off).take i.size)) w := by
  cases ha : i.agg with
  | true =>
    rw [partF_run hi (partF_agg ha h)]; simp [valT, ha]
  | false =>
    have h1 : i.size = 1 := by rcases hs with h' | h' <;> simp_all
    rw [h1] at h ⊢
    have hlt : off < l.length := by omega
    rw [partF_run hi (partF_one ha (List.getElem?_eq_getElem hlt))]
    rw [List.drop_eq_getElem_cons hlt, List.take_succ_cons]; simp [valT, ha]

theorem EqT.int {P : Program} {t : TypeId} {i : TI} (hi : TIok P t i) {k : IntKind} (hk : i.k = .int k) (hs : i.size = 1) (d : Nat) : EqT P (d + 1) t i := by
  intro w xs ys hx hy hs'
  have hd := hi.desc
  rw [hk] at hd
  have hagg : i.agg = false := by simp [TI.agg, hk]
  match xs, ys, hx, hy, hs' with
  | [x], [y], _, _, h =>
    obtain ⟨⟨k', a, b, rfl, rfl⟩, _⟩ := h
    simp only [valT, hagg, cond_false, List.headD_cons]
    rw [run_equalIn_int w d t k' k a b hd]
    congr 1
    rw [Bool.eq_iff_iff]; simp [eqIV]
  | [], _, hx, _, _ => simp [hs] at hx
  | _ :: _ :: _, _, hx, _, _ => simp [hs] at hx
  | [_], [], _, hy, _ => simp [hs] at hy
  | [_], _ :: _ :: _, _, hy, _ => simp [hs] at hy

theorem EqT.arr {P : Program} {t e : TypeId} {i j : TI} {n d : Nat} (hi : TIok P t i) (hk : i.k = .arr n e) (hj : TIok P e j) (hs : i.size = n * j.size) (hs1 : j.agg = true ∨ j.size = 1) (h : EqT P d e j) : EqT P (d + 1) t i := by
  intro w xs ys hx hy hsame
  have hd := hi.desc
  rw [hk] at hd
  have hagg : i.agg = true := by simp [TI.agg, hk]
  simp only [valT, hagg, cond_true]
  simp only [Op.equalIn, Sem.run_bind, run_underlying hd, Result.andThen_ok, run_sizeOf hj]
  rw [Std.Legacy.Range.forIn_eq_forIn_range']
  have key : ∀ m s, (s + m) * j.size = xs.length → ((forIn (List.range' s m 1) (none, ()) fun a __s => do
            let __do_lift ← part e { toList := xs } (a * j.size)
            let __do_lift_1 ← part e { toList := ys } (a * j.size)
            let __do_lift ← Op.equalIn d e __do_lift __do_lift_1
            if (!__do_lift) = true then pure (ForInStep.done (some false, ())) else pure (ForInStep.yield (none, ())) : Sem (Option Bool × Unit)).run P w)
      = .ok (if eqIV (xs.drop (s * j.size)) (ys.drop (s * j.size)) = true then (none, ()) else (some false, ())) w := by
    intro m
    induction m with
    | zero =>
      intro s hsl
      rw [List.drop_eq_nil_of_le (by rw [← hsl]; exact Nat.le_refl _), List.drop_eq_nil_of_le (by rw [hy, ← hx, ← hsl]; exact Nat.le_refl _)]
      simp [eqIV]
    | succ m ih =>
      intro s hsl
      have hle : s * j.size + j.size ≤ xs.length := by rw [← hsl, ← Nat.succ_mul]; exact Nat.mul_le_mul_right _ (by omega)
      have hle' : s * j.size + j.size ≤ ys.length := by rw [hy, ← hx]; exact hle
      have hxl : ((xs.drop (s * j.size)).take j.size).length = j.size := by rw [List.length_take, List.length_drop]; omega
      have hyl : ((ys.drop (s * j.size)).take j.size).length = j.size := by rw [List.length_take, List.length_drop]; omega
      have hsk := (hsame.drop (s * j.size)).take j.size
      have e1 : eqIV (xs.drop (s * j.size)) (ys.drop (s * j.size)) = (eqIV ((xs.drop (s * j.size)).take j.size) ((ys.drop (s * j.size)).take j.size) && eqIV (xs.drop ((s + 1) * j.size)) (ys.drop ((s + 1) * j.size))) := by
        rw [← eqIV_append hsk, Nat.succ_mul, ← List.drop_drop, ← List.drop_drop, List.take_append_drop, List.take_append_drop]
      rw [e1, List.range'_succ]
      simp only [List.forIn_cons, Sem.run_bind]
      rw [show (part e { toList := xs } (s * j.size)).run P w = _ from part_val hj hs1 hle]
      simp only [Result.andThen_ok]
      rw [show (part e { toList := ys } (s * j.size)).run P w = _ from part_val hj hs1 hle']
      simp only [Result.andThen_ok]
      rw [h w _ _ hxl hyl hsk]
      simp only [Result.andThen_ok]
      cases hc : eqIV ((xs.drop (s * j.size)).take j.size) ((ys.drop (s * j.size)).take j.size) with
      | false => simp
      | true =>
        simp only [Bool.not_true, Bool.false_eq_true, if_false, Sem.run_pure, Result.andThen_ok, Bool.true_and]
        exact ih (s + 1) (by rw [← hsl]; congr 1; omega)
  have k0 := key n 0 (by rw [hx, hs, Nat.zero_add])
  simp only [Nat.zero_mul, List.drop_zero] at k0
  simp only [Std.Legacy.Range.size, Nat.sub_zero, Nat.add_sub_cancel, Nat.div_one]
  rw [k0]
  cases eqIV xs ys <;> simp

def FieldsOk (P : Program) (d : Nat) : List (Nat × TypeId) → Nat → Nat → Prop
  | [], off, size => off = size
  | (o, t) :: fs, off, size => o = off ∧ ∃ j, TIok P t j ∧ (j.agg = true ∨ j.size = 1) ∧ EqT P d t j ∧ off + j.size ≤ size ∧ FieldsOk P d fs (off + j.size) size
theorem EqT.str {P : Program} {t : TypeId} {i : TI} {d : Nat} {fs : List (Nat × TypeId)} (hi : TIok P t i) (hk : i.k = .str fs) (hp : P.stoodInHeld t = false) (hn : (P.fieldsOf t).toList.all (fun f => f.name != "_") = true)
    (hf : FieldsOk P d fs 0 i.size) : EqT P (d + 1) t i := by
  intro w xs ys hx hy hsame
  have hd := hi.desc
  rw [hk] at hd
  obtain ⟨l, hl, hmap⟩ := hd
  have hagg : i.agg = true := by simp [TI.agg, hk]
  have hfo : P.fieldsOf t = l.toArray := by unfold Program.fieldsOf; rw [hl]
  simp only [valT, hagg, cond_true]
  rw [run_equalIn_struct w d t _ _ (by rw [hfo]; exact hl) hp]
  rw [hfo] at hn ⊢
  dsimp only at hn ⊢
  have key : ∀ (l : List Field) (off : Nat), l.all (fun f => f.name != "_") = true → FieldsOk P d (l.map fun f => (f.offset, f.type)) off i.size → (Op.eqFields d ⟨xs⟩ ⟨ys⟩ l).run P w = .ok (eqIV (xs.drop off) (ys.drop off)) w := by
    intro l
    induction l with
    | nil =>
      intro off _ h
      have h : off = i.size := h
      rw [List.drop_eq_nil_of_le (by omega), List.drop_eq_nil_of_le (by omega)]
      simp [Op.eqFields, eqIV]
    | cons f l ih =>
      intro off hn h
      simp only [List.all_cons, Bool.and_eq_true, bne_iff_ne, ne_eq] at hn
      obtain ⟨ho, j, hj, hs1, hE, hle, hrest⟩ := h
      have hxl : ((xs.drop off).take j.size).length = j.size := by rw [List.length_take, List.length_drop]; omega
      have hyl : ((ys.drop off).take j.size).length = j.size := by rw [List.length_take, List.length_drop]; omega
      have hsk := (hsame.drop off).take j.size
      have e1 : eqIV (xs.drop off) (ys.drop off) = (eqIV ((xs.drop off).take j.size) ((ys.drop off).take j.size) && eqIV (xs.drop (off + j.size)) (ys.drop (off + j.size))) := by
        rw [← eqIV_append hsk, ← List.drop_drop, ← List.drop_drop, List.take_append_drop, List.take_append_drop]
      rw [e1]
      simp only [Op.eqFields]
      rw [if_pos hn.1, ho]
      simp only [Sem.run_bind]
      rw [show (part f.type { toList := xs } off).run P w = _ from part_val hj hs1 (by omega)]
      simp only [Result.andThen_ok]
      rw [show (part f.type { toList := ys } off).run P w = _ from part_val hj hs1 (by omega)]
      simp only [Result.andThen_ok]
      rw [hE w _ _ hxl hyl hsk]
      simp only [Result.andThen_ok]
      cases hc : eqIV ((xs.drop off).take j.size) ((ys.drop off).take j.size) with
      | false => simp
      | true =>
        simp only [Bool.not_true, Bool.false_eq_true, if_false, Bool.true_and]
        exact ih (off + j.size) (by simpa using hn.2) hrest
  have := key l 0 hn (by rw [hmap]; exact hf)
  simpa using this

/-- '==' and '!=' of arrays and structs. -/
def aqO (L : Env) (o : Op) : Option (Bool × TypeId × List Value × List Value) :=
  match o with
  | .binOp op t x y _ => (evalO L x).bind fun a => (evalO L y).bind fun b => match op, a, b with
    | .eql, .agg ⟨xs⟩, .agg ⟨ys⟩ => some (false, t, xs, ys)
    | .neq, .agg ⟨xs⟩, .agg ⟨ys⟩ => some (true, t, xs, ys)
    | _, _, _ => none
  | _ => none
theorem aqO_run {P : Program} {w : World} {L : Env} {a : Act} {n : Nat} (ha : Agr n L a) {o : Oper} {neg : Bool} {t : TypeId} {xs ys : List Value} {i : TI}
    (h : aqO L o.op = some (neg, t, xs, ys)) (hE : EqT P 10000 t i) (hagg : i.agg = true) (hm : P.eqGuardType P.depth t = false) (hx : xs.length = i.size) (hy : ys.length = i.size) (hs : SameK xs ys) :
    (execOp a.eval o).run P w = .ok (.value (.bool (neg ^^ eqIV xs ys))) w := by
  obtain ⟨dst, op, ty, pos, after, guard⟩ := o
  have hEq := hE w xs ys hx hy hs
  simp only [valT, hagg, cond_true] at hEq
  unfold aqO at h
  split at h
  · rename_i op t' x y u hop
    simp only at hop; subst hop
    cases hxv : evalO L x with
    | none => simp [hxv] at h
    | some vx =>
      cases hyv : evalO L y with
      | none => simp [hxv, hyv] at h
      | some vy =>
        simp only [hxv, hyv, Option.bind_some] at h
        split at h
        · simp only [Option.some.injEq, Prod.mk.injEq] at h
          obtain ⟨rfl, rfl, rfl, rfl⟩ := h
          simp [execOp, ha.eval hxv, ha.eval hyv, run_eqGuard_agg w _ _ _ _ _ _ hm, run_eql_struct, hEq]
        · simp only [Option.some.injEq, Prod.mk.injEq] at h
          obtain ⟨rfl, rfl, rfl, rfl⟩ := h
          simp [execOp, ha.eval hxv, ha.eval hyv, run_eqGuard_agg w _ _ _ _ _ _ hm, run_neq_struct, hEq]
        · contradiction
  · contradiction
section
variable {p : Pg} {fn : Func} {rd : List HProp} {post : Post} {C : Ctx p fn rd post} {all : Array Oper} {l : List Oper} {K : List It} {L : Env} {H : List HProp}
/-- What is known of a type whose values are compared. -/
structure EqK (p : Pg) (t : TypeId) (i : TI) : Prop where
  eq : EqT p.P 10000 t i
  agg : i.agg = true
  gd : p.P.eqGuardType p.P.depth t = false
theorem xeq {o : Oper} {d : Tmp} {neg : Bool} {t : TypeId} {xs ys : List Value} {i : TI} (hop : aqO L o.op = some (neg, t, xs, ys)) (hE : EqK p t i) (hx : xs.length = i.size) (hy : ys.length = i.size) (hs : SameK xs ys)
    (k : G C (.ops all l :: K) ((d, .bool (neg ^^ eqIV xs ys)) :: L) H) (hg : guardV all L o.guard = some true := by rfl) (hd : o.dst = some d := by rfl) (hn : Nat.blt d fn.ntmps = true := by rfl) : G C (.ops all (o :: l) :: K) L H :=
  G.val1 hg hd (Nat.le_of_ble_eq_true hn) (fun _a w F ha hs' hf => ⟨w, F, aqO_run ha hop hE.eq hE.agg hE.gd hx hy hs, hs', hf⟩) k
theorem xdeq {f : Nat} (i : Nat) {listed listed' : List Bool} {J : Held} {o : Oper} {d : Tmp} {neg : Bool} {t : TypeId} {xs ys : List Value} {ti : TI} (ho : all[i]? = some o) (hop : aqO L o.op = some (neg, t, xs, ys)) (hE : EqK p t ti) (hx : xs.length = ti.size) (hy : ys.length = ti.size) (hs : SameK xs ys)
    (g : G C (anyI C all f listed' J K :: K) ((d, .bool (neg ^^ eqIV xs ys)) :: L) H) (hok : firstOk all listed i = true := by kernel_rfl) (hset : setL i listed = some listed' := by rfl)
    (hg : guardV all L o.guard = some true := by rfl) (hd : o.dst = some d := by rfl) (hn : Nat.blt d fn.ntmps = true := by rfl) : G C (anyI C all (f + 1) listed J K :: K) L H :=
  G.dtake (B := fun _ => True) ho hok hset hd (Nat.le_of_ble_eq_true hn) (fun _ h => h) (fun _ _ _ _ _ => trivial) (fun _ ha => .inl ⟨guardV_wanted ha hg, fun _w _ => aqO_run ha hop hE.eq hE.agg hE.gd hx hy hs⟩) g
end
theorem SameK.bsV : ∀ {l m : List UInt8}, l.length = m.length → SameK (W.bsV l) (W.bsV m)
  | [], [], _ => trivial
  | x :: l, y :: m, h => ⟨⟨.u8, _, _, rfl, rfl⟩, SameK.bsV (by simpa using h)⟩
  | [], _ :: _, h => by simp at h
  | _ :: _, [], h => by simp at h
theorem eqIV_bsV {l m : List UInt8} (h : l.length = m.length) : eqIV (bsV l) (bsV m) = decide (l = m) := by
  rw [Bool.eq_iff_iff, eqIV_iff (SameK.bsV h), decide_eq_true_eq]
  exact ⟨bsV_inj, fun e => by rw [e]⟩
end Go.W

/- Functions without a body. -/
namespace Go.W

/-- What a function without a body does: it answers, and what it makes is new. -/
structure Ext (P : Program) (f : FuncId) (args : List Value) (X : Value → List HProp → Prop) : Prop where
  run : ∀ w : World, ∃ v Hn w' Fn, (callFunc f args.toArray).run P w = .ok (.value v) w' ∧ X v Hn ∧ Sat Hn w' Fn ∧ (∀ b, Fn b → w.heap.size ≤ b ∧ b < w'.heap.size) ∧ w.heap.size ≤ w'.heap.size ∧
    (∀ b, b < w.heap.size → w'.heap[b]? = w.heap[b]?) ∧ w'.tape = w.tape ∧ w'.os = w.os ∧ w'.output = w.output

theorem Ext.pure {P : Program} {f : FuncId} {args : List Value} {v : Value} (h : ∀ w : World, (callFunc f args.toArray).run P w = .ok (.value v) w) : Ext P f args fun u H => u = v ∧ H = [] :=
  ⟨fun w => ⟨v, [], w, fun _ => False, h w, ⟨rfl, rfl⟩, trivial, fun _ h => h.elim, Nat.le_refl _, fun _ _ => rfl, rfl, rfl, rfl⟩⟩

theorem callE_run {P : Program} {w w' : World} {L : Env} {a : Act} {n : Nat} (ha : Agr n L a) {o : Oper} {f : FuncId} {vs : List Value} {v : Value} (hc : (callFunc f vs.toArray).run P w = .ok (.value v) w')
    (h : callO L o.op = some (f, vs)) : (execOp a.eval o).run P w = .ok (.value v) w' := by
  obtain ⟨dst, op, ty, pos, after, guard⟩ := o
  unfold callO at h
  split at h
  · rename_i x xs ats hop
    simp only at hop; subst hop
    cases hx : evalO L x with
    | none => simp [hx] at h
    | some u =>
      cases hv : evalOs L xs.toList with
      | none => simp [hx, hv] at h
      | some us =>
        simp only [hx, hv, Option.bind_some] at h
        split at h
        · simp only [Option.some.injEq, Prod.mk.injEq] at h
          obtain ⟨rfl, rfl⟩ := h
          have e := evalO_map ha hv
          simp only [execOp, resolve, ha.eval hx, Deferred.ofValue, e]
          simp only [pure, Sem.bind, bind, invoke]
          have := hc
          simp at this
          simp [this]
        · contradiction
  · contradiction
section
variable {p : Pg} {fn : Func} {rd : List HProp} {post : Post} {C : Ctx p fn rd post} {all : Array Oper} {l : List Oper} {K : List It} {L : Env} {H : List HProp}
theorem xext {o : Oper} {d : Tmp} {f : FuncId} {args : List Value} {X : Value → List HProp → Prop} (hc : Ext p.P f args X) (k : ∀ v Hn, X v Hn → G C (.ops all l :: K) ((d, v) :: L) (Hn ++ H))
    (hop : callO L o.op = some (f, args) := by rfl) (hg : guardV all L o.guard = some true := by rfl) (hd : o.dst = some d := by rfl) (hn : Nat.blt d fn.ntmps = true := by rfl) : G C (.ops all (o :: l) :: K) L H := by
  refine G.val (H' := fun v Hs => ∃ Hn, X v Hn ∧ Hs = Hn ++ H) hg hd (Nat.le_of_ble_eq_true hn) (fun a w F ha hs hf => ?_) (fun v Hs ⟨Hn, hX, e⟩ => by subst e; exact k v Hn hX)
  obtain ⟨v, Hn, w', Fn, hr, hX, hsn, hfn, hsz, hold, ht, ho, hout⟩ := hc.run w
  refine ⟨v, w', fun b => Fn b ∨ F b, Hn ++ H, callE_run ha hr hop, ⟨Hn, hX, rfl⟩, Sat.append.2 ⟨Fn, F, hsn, hs.loc fun b hb => hold b (hf.inb b hb), fun b h h' => ?_, fun b h => .inl h, fun b h => .inr h⟩, ?_⟩
  · have := (hfn b h).1; have := hf.inb b h'; omega
  · refine ⟨Nat.le_trans hf.size hsz, fun b hb hn => ?_, ?_, ?_, ht.trans hf.tape, ho.trans hf.os, hout.trans hf.out⟩
    · rw [hold b (Nat.lt_of_lt_of_le hb hf.size)]; exact hf.kept b hb hn
    · rintro b (h | h) hb
      · have := (hfn b h).1; have := hf.size; omega
      · exact hf.own b h hb
    · rintro b (h | h)
      · exact (hfn b h).2
      · exact Nat.lt_of_lt_of_le (hf.inb b h) hsz
end

theorem callFunc_ext {P : Program} {f : FuncId} {fn : Func} {e : Array Value → Sem Value} {args : Array Value} {w : World} (hf : P.funcs[f]? = some fn) (hn : (fn.name == "runtime.NumGoroutine") = false) (hb : fn.body.isNone = true)
    (hx : Extern.findNext fn = none) (he : Extern.find fn = some e) : (callFunc f args).run P w = ((e args).run P w).andThen fun v w' => .ok (.value v) w' := by
  have hb' : fn.body = none := by simpa using hb
  have hn' : ¬ fn.name = "runtime.NumGoroutine" := by simpa using hn
  unfold callFunc
  simp [hf, hx, he]
  rw [if_neg hn', if_pos hb']
/-- bytealg.MakeNoZero: any bytes. -/
theorem noZero_ext {P : Program} {f : FuncId} {t e : TypeId} {n : Nat} (ps : Array TypeId) (ht : P.underlying t = some (.slice e)) (hn : n ≤ 281474976710656)
    (hf : ∀ w : World, (callFunc f #[.int .i64 n]).run P w = ((Extern.BytealgMakeNoZero.makeNoZero ps #[t] #[.int .i64 n]).run P w).andThen fun v w' => .ok (.value v) w') :
    Ext P f [.int .i64 n] fun v H => ∃ (b : Nat) (cs : List Value), n ≤ cs.length ∧ v = .slice (some ⟨b, 0, none⟩) n cs.length ∧ H = [pts b cs] := by
  refine ⟨fun w => ?_⟩
  obtain ⟨cs, hr, h1, h2, _⟩ := Lib.run_makeNoZero_cap (P := P) w ps t e ht n hn
  refine ⟨.slice (some ⟨w.heap.size, 0, none⟩) n cs.size, [pts w.heap.size cs.toList], w.drew.drew.alloc (.cells cs e), fun b => b = w.heap.size, by rw [show ([Value.int .i64 n] : List Value).toArray = #[.int .i64 n] from rfl, hf, hr]; rfl, ⟨w.heap.size, cs.toList, by simpa using h1, by simp, rfl⟩, ?_, ?_, ?_, ?_, rfl, rfl, rfl⟩
  · refine ⟨fun b => b = w.heap.size, fun _ => False, ⟨rfl, e, 0, 0, ?_, .inl rfl⟩, trivial, fun _ _ h => h, fun _ h => h, fun _ h => h.elim⟩
    show (w.heap.push (.cells cs e))[w.heap.size]? = _
    simp
  · rintro b rfl
    refine ⟨Nat.le_refl _, ?_⟩
    show w.heap.size < (w.heap.push (.cells cs e)).size
    simp
  · show w.heap.size ≤ (w.heap.push (.cells cs e)).size
    simp
  · intro b hb
    show (w.heap.push (.cells cs e))[b]? = _
    rw [Array.getElem?_push_lt hb]; simp [hb]

/-- x[:h:m] of a slice. -/
def sl3O (tt : TypeId → Option TI) (L : Env) (o : Op) : Option (Nat × Nat × Nat × Int × Int) :=
  match o with
  | .slice t x none (some hi) (some mx) => (tt t).bind fun i => match i.k, evalO L x, evalO L hi, evalO L mx with
    | .slice e, some (.slice (some ⟨b, off, none⟩) _ c), some (.int _ h), some (.int _ m) => (tt e).map fun _ => (b, off, c, h, m)
    | _, _, _, _ => none
  | _ => none
theorem sl3O_run {P : Program} {w : World} {tt : TypeId → Option TI} (ok : ∀ t i, tt t = some i → TIok P t i) {L : Env} {a : Act} {n : Nat} (ha : Agr n L a) {o : Oper} {b off c h m : Nat}
    (hop : sl3O tt L o.op = some (b, off, c, (h : Int), (m : Int))) (h1 : h ≤ m) (h2 : m ≤ c) : (execOp a.eval o).run P w = .ok (.value (.slice (some ⟨b, off, none⟩) h m)) w := by
  obtain ⟨dst, op, ty, pos, after, guard⟩ := o
  unfold sl3O at hop
  split at hop
  · rename_i t x hi mx hop'
    simp only at hop'; subst hop'
    cases ht : tt t with
    | none => simp [ht] at hop
    | some i =>
      have hd := (ok t i ht).desc
      simp only [ht, Option.bind_some] at hop
      split at hop
      · rename_i e b' off' n' c' k1 h' k2 m' hk hx hh hm
        rw [hk] at hd
        cases he : tt e with
        | none => simp [he] at hop
        | some j =>
          simp only [he, Option.map_some, Option.some.injEq, Prod.mk.injEq] at hop
          obtain ⟨rfl, rfl, rfl, rfl, rfl⟩ := hop
          have b1 : ∀ code, (Instr.sliceBound (.int k2 (m : Int)) c' code).run P w = .ok m w := fun code => by
            have := bound_run (P := P) (w := w) (k := k2) (x := (m : Int)) (y := c') (code := code) (by omega) (by omega); simpa using this
          have b2 : ∀ code, (Instr.sliceBound (.int k1 (h : Int)) m code).run P w = .ok h w := fun code => by
            have := bound_run (P := P) (w := w) (k := k1) (x := (h : Int)) (y := m) (code := code) (by omega) (by omega); simpa using this
          have hb : (Instr.sliceBounds true n' c' none (some (.int k1 (h : Int))) (some (.int k2 (m : Int)))).run P w = .ok (0, h, m) w := by
            simp [Instr.sliceBounds, b1, b2]
          simp only [execOp, Instr.sliceAt, Instr.slice, ha.eval hx, Option.map_none, Option.map_some, ha.eval hh, ha.eval hm]
          rw [run_bind_ok (a := .slice (some ⟨b', off', none⟩) h m) (w' := w)]
          · rfl
          · rw [run_bind_ok (run_underlying hd)]
            simp only []
            rw [run_bind_ok (run_underlying hd)]
            simp only []
            rw [run_bind_ok hb]
            simp only []
            rw [run_bind_ok (run_sizeOf (ok e j he))]
            simp [Addr.add_none]
      · contradiction
  · contradiction
section
variable {p : Pg} {fn : Func} {rd : List HProp} {post : Post} {C : Ctx p fn rd post} {all : Array Oper} {l : List Oper} {K : List It} {L : Env} {H : List HProp}
theorem xslice3 {o : Oper} {d : Tmp} {b off c : Nat} {h' m' : Int} (h m : Nat) (hop : sl3O p.tt L o.op = some (b, off, c, h', m')) (e1 : h' = h) (e2 : m' = m) (h1 : h ≤ m) (h2 : m ≤ c)
    (k : G C (.ops all l :: K) ((d, .slice (some ⟨b, off, none⟩) h m) :: L) H) (hg : guardV all L o.guard = some true := by rfl) (hd : o.dst = some d := by rfl) (hn : Nat.blt d fn.ntmps = true := by rfl) : G C (.ops all (o :: l) :: K) L H := by
  subst e1; subst e2
  exact G.val1 hg hd (Nat.le_of_ble_eq_true hn) (fun a w F ha hs hf => ⟨w, F, sl3O_run p.ok ha hop h1 h2, hs, hf⟩) k
end
end Go.W

/- Blocks whose type is known, pieces and '==' of strings, bytes as a string, unsafe.String. -/
namespace Go.W

/-! ## A block of a known type -/
def ownT (T : TypeId) (w : World) (b : Nat) (l : List Value) : Prop := ∃ lo hi, w.heap[b]? = some (.cells l.toArray T (lo, hi)) ∧ (hi = lo ∨ l.length ≤ lo)
theorem ownT.own {T : TypeId} {w : World} {b : Nat} {l : List Value} : ownT T w b l → ownAt w b l := fun ⟨lo, hi, h⟩ => ⟨T, lo, hi, h⟩
theorem ownT.shape {T : TypeId} {w : World} {b : Nat} {l : List Value} (h : ownT T w b l) : w.shape? b = some (T, l.length) := by
  obtain ⟨lo, hi, h, _⟩ := h
  simp [World.shape?, h]
theorem ownT.set {T : TypeId} {w : World} {b : Nat} {l : List Value} (h : ownT T w b l) (off : Nat) (v : Value) : ownT T (w.setCell ⟨b, off, none⟩ v) b (l.set off v) := by
  obtain ⟨lo, hi, h, hf⟩ := h
  refine ⟨lo, hi, ?_, by simpa using hf⟩
  have hb : b < w.heap.size := by
    rcases Nat.lt_or_ge b w.heap.size with h' | h'
    · exact h'
    · simp [Array.getElem?_eq_none h'] at h
  have hh : w.heap[b] = .cells l.toArray T (lo, hi) := by simpa [Array.getElem?_eq_getElem hb] using h
  simp only [World.setCell]
  rw [Array.getElem?_modify]
  simp [Array.getElem?_eq_getElem hb, hh]
/-- An owned block of the type 'T'. -/
def ptT (T : TypeId) (b : Nat) (l : List Value) : HProp where
  holds w F := F b ∧ ownT T w b l
  loc w w' F hw := fun ⟨hb, _, _, h, hf⟩ => ⟨hb, _, _, by rw [hw b hb]; exact h, hf⟩
  up w F F' hF := fun ⟨hb, h⟩ => ⟨hF b hb, h⟩
instance HasPts.hereT (T : TypeId) (b : Nat) (l : List Value) (H : List HProp) : HasPts (ptT T b l :: H) b l :=
  ⟨fun _w _F ⟨_F1, _F2, ⟨hb, ho⟩, _, _, ha, _⟩ => ⟨ho.own, ha b hb⟩⟩

theorem storeCells_T {P : Program} {T : TypeId} : ∀ {cs : List Value} {w : World} {b off : Nat} {l : List Value} (i : Nat), ownT T w b l → off + i + cs.length ≤ l.length → (∀ v ∈ cs, v.oneCell' = true) →
    ∃ w', (storeCells ⟨b, off, none⟩ cs i).run P w = .ok () w' ∧ ownT T w' b (l.take (off + i) ++ cs ++ l.drop (off + i + cs.length)) ∧ Wrote w b w'
  | [], w, b, off, l, i, h, _, _ => ⟨w, rfl, by simpa using h, ⟨fun _ _ => rfl, rfl, rfl, rfl, rfl⟩⟩
  | v :: cs, w, b, off, l, i, h, hl, hc => by
    simp only [List.length_cons] at hl
    have hlt : off + i < l.length := by omega
    have h1 := h.set (off + i) v
    obtain ⟨w', hr, ho, hw⟩ := storeCells_T (P := P) (cs := cs) (off := off) (i + 1) h1 (by simp; omega) (fun u hu => hc u (List.mem_cons_of_mem _ hu))
    have hv : v.oneCell' = true := hc v List.mem_cons_self
    have hcell : w.cell? ⟨b, off + i, none⟩ = some l[off + i] := h.own.blk.cell (by simp [hlt])
    refine ⟨w', ?_, ?_, ⟨fun c hc => ?_, ?_, ?_, ?_, ?_⟩⟩
    · unfold storeCells
      rw [Addr.add_none, run_bind_ok (a := ()) (w' := w.setCell ⟨b, off + i, none⟩ v)]
      · exact hr
      · rw [run_store P w _ v .plain hv, hcell]
        simp [h.own.free hlt]
    · have e : (l.set (off + i) v).take (off + (i + 1)) ++ cs ++ (l.set (off + i) v).drop (off + (i + 1) + cs.length) = l.take (off + i) ++ v :: cs ++ l.drop (off + i + (cs.length + 1)) := by
        have ha : (l.take (off + i)).length = off + i := by simp; omega
        rw [List.set_eq_take_append_cons_drop, if_pos hlt]
        have e1 : off + (i + 1) = (l.take (off + i)).length + 1 := by rw [ha]; omega
        have e2 : off + (i + 1) + cs.length = (l.take (off + i)).length + (1 + cs.length) := by rw [ha]; omega
        rw [e2, List.drop_append, e1, List.take_append]
        simp only [Nat.add_sub_cancel_left, List.take_succ_cons, List.take_zero]
        rw [List.take_of_length_le (by omega), List.drop_eq_nil_of_le (by omega), Nat.add_comm 1 cs.length, List.drop_succ_cons, List.drop_drop]
        simp only [List.append_assoc, List.cons_append, List.nil_append]
        congr 4
        omega
      rw [e] at ho
      exact ho
    · rw [hw.other c hc, setCell_other hc]
    · rw [hw.size, setCell_size]
    · exact hw.tape
    · exact hw.os
    · exact hw.out

/-- An owned row of 'e', from its block's head on. -/
def rowT (e : TypeId) (a : Option Addr) (n cap : Nat) (xs : List Value) : HProp where
  holds w F := xs.length = n ∧ n ≤ cap ∧ match a with
    | none => cap = 0
    | some ad => ad.spot = none ∧ ad.off = 0 ∧ ∃ rest, F ad.block ∧ ownT e w ad.block (xs ++ rest) ∧ cap ≤ xs.length + rest.length
  loc w w' F hw := by
    rintro ⟨h1, h2, h3⟩
    refine ⟨h1, h2, ?_⟩
    cases a with
    | none => exact h3
    | some ad =>
      obtain ⟨hs, ho, rest, hb, ⟨lo, hi, h, hf⟩, hc⟩ := h3
      exact ⟨hs, ho, rest, hb, ⟨lo, hi, by rw [hw _ hb]; exact h, hf⟩, hc⟩
  up w F F' hF := by
    rintro ⟨h1, h2, h3⟩
    refine ⟨h1, h2, ?_⟩
    cases a with
    | none => exact h3
    | some ad =>
      obtain ⟨hs, ho, rest, hb, h, hc⟩ := h3
      exact ⟨hs, ho, rest, hF _ hb, h, hc⟩

def newTO (tt : TypeId → Option TI) (o : Op) : Option (TypeId × List Value) :=
  match o with
  | .alloc t => match tt t with | some ⟨_, _, _, z⟩ => some (t, z) | none => none
  | _ => none
def apE (tt : TypeId → Option TI) (o : Op) : Option TypeId :=
  match o with
  | .call { callee := .builtin .append, args := ⟨[_, _]⟩, argTypes := ⟨[tx, _]⟩ } => match tt tx with | some i => (match i.k with | .slice e => some e | _ => none) | none => none
  | _ => none

section
variable {p : Pg} {fn : Func} {rd : List HProp} {post : Post} {C : Ctx p fn rd post} {all : Array Oper} {l : List Oper} {K : List It} {L : Env} {H : List HProp}
theorem Sat.freshT {H : List HProp} {w : World} {F : Foot} {l : List Value} {T : TypeId} (hs : Sat H w F) (hi : ∀ b, F b → b < w.heap.size) (n : Nat) :
    Sat (ptT T w.heap.size l :: H) { w with heap := w.heap.push (.cells l.toArray T), drawn := n } (fun b => F b ∨ b = w.heap.size) := by
  refine ⟨fun b => b = w.heap.size, F, ⟨rfl, 0, 0, by simp, .inl rfl⟩, hs.loc fun b hb => ?_, fun b h h' => ?_, fun b h => .inr h, fun b h => .inl h⟩
  · have := hi b hb
    show (w.heap.push _)[b]? = _
    rw [Array.getElem?_push_lt this]
    simp [this]
  · subst h; exact Nat.lt_irrefl _ (hi _ h')
/-- A new variable, its type kept. -/
theorem xnewT {o : Oper} {d : Tmp} {T : TypeId} {cs : List Value} (k : ∀ b, G C (.ops all l :: K) ((d, .pointer (some ⟨b, 0, none⟩)) :: L) (ptT T b cs :: H)) (hop : newTO p.tt o.op = some (T, cs) := by rfl) (hg : guardV all L o.guard = some true := by rfl)
    (hd : o.dst = some d := by rfl) (hn : Nat.blt d fn.ntmps = true := by rfl) : G C (.ops all (o :: l) :: K) L H := by
  refine G.val (H' := fun v Hs => ∃ b, v = .pointer (some ⟨b, 0, none⟩) ∧ Hs = ptT T b cs :: H) hg hd (Nat.le_of_ble_eq_true hn) (fun a w F ha hs hf => ?_) (fun v Hs ⟨b, e1, e2⟩ => by subst e1; subst e2; exact k b)
  obtain ⟨dst, op, ty, pos, after, guard⟩ := o
  unfold newTO at hop
  split at hop
  · rename_i t hop'
    simp only at hop'; subst hop'
    cases ht : p.tt t with
    | none => simp [ht] at hop
    | some i =>
      simp [ht] at hop
      obtain ⟨rfl, rfl⟩ := hop
      obtain ⟨z, hz, hzc⟩ := run_zeroValue (w := w) (p.ok t i ht)
      refine ⟨_, { w with heap := w.heap.push (.cells i.zero.toArray t), drawn := w.drawn }, _, _, ?_, ⟨w.heap.size, rfl, rfl⟩, Sat.freshT hs hf.inb _, hf.fresh _ _⟩
      simp [execOp, Instr.alloc, hz, newVar, newRow, hzc]
  · contradiction
theorem rown_ent (e : TypeId) (H : List HProp) : Ent H (rowT e none 0 0 [] :: H) :=
  fun _ F hs => ⟨fun _ => False, F, ⟨rfl, Nat.le_refl _, rfl⟩, hs, fun _ h => h.elim, fun _ h => h.elim, fun _ h => h⟩
/-- A nil row is owned by whoever wants it. -/
theorem G.rown (e : TypeId) (k : G C K L (rowT e none 0 0 [] :: H)) : G C K L H := G.wkH _ (rown_ent e H) k

/-- append onto an owned row. -/
theorem G.appendT {o : Oper} {d : Tmp} {q : Ap} {e : TypeId} {m : Nat} {xs ys : List Value} {R : List HProp} (hop : apO p.tt L o.op = some q) (hoe : apE p.tt o.op = some e) (hq1 : q.elem.size = 1) (hqb : q.elem.bytes = 1) [pk : Rem H (rowT e q.a q.n q.cap xs) R] (hsrc : SrcOk C R 1 q.src m ys)
    (hb : q.n + m ≤ 140737488355328) (hg : guardV all L o.guard = some true) (hd : o.dst = some d) (hn : Nat.blt d fn.ntmps = true)
    (k : ∀ a' cap', G C (.ops all l :: K) ((d, .slice a' (q.n + m) cap') :: L) (rowT e a' (q.n + m) cap' (xs ++ ys) :: R)) : G C (.ops all (o :: l) :: K) L H := by
  refine G.val (H' := fun v Hs => ∃ a' cap', v = .slice a' (q.n + m) cap' ∧ Hs = rowT e a' (q.n + m) cap' (xs ++ ys) :: R) hg hd (Nat.le_of_ble_eq_true hn) (fun a w F ha hs hf => ?_) ?_
  rotate_left
  · rintro v Hs ⟨a', cap', rfl, rfl⟩; exact k a' cap'
  obtain ⟨F1, F2, hv, hR, hdis, hF1, hF2⟩ := pk.ent w F hs
  obtain ⟨dst, op, ty', pos, after, guard⟩ := o
  obtain ⟨x, y, tx, ty, e', rfl, hx, hy, hdx, hj, hdy, hz, hbt⟩ := apO_inv p.ok hop
  have he : e = e' := by
    simp only [apE] at hoe
    cases ht : p.tt tx with
    | none => simp [ht] at hoe
    | some i =>
      simp only [ht] at hoe
      have hdi := (p.ok tx i ht).desc
      split at hoe
      · rename_i e'' hk
        rw [hk] at hdi
        simp only [Option.some.injEq] at hoe
        subst hoe
        rw [hdx] at hdi
        simp at hdi
        exact hdi.symm
      · contradiction
  subst he
  obtain ⟨j, hji, hjs, hjb, zv, hjz, hzc⟩ := hj.info
  rw [hq1] at hjs
  have hS : Src p.P j.size ty q.src m ys w := by
    refine ⟨hdy, fun w' => lenV_run hsrc.len, ?_, ?_, by rw [hjs]; exact hsrc.cells, hsrc.one⟩
    · rw [hjs]
      have := hsrc.run w F F2 m hR hF2 hf (Nat.le_refl _)
      rwa [List.take_of_length_le (by rw [hsrc.cells]; exact Nat.le_refl _)] at this
    · rw [hjs]
      have := hsrc.run w.drew F F2 m (Sat.loc (w := w) (w' := w.drew) (fun _ _ => rfl) hR) hF2 (hf.drew _) (Nat.le_refl _)
      rwa [List.take_of_length_le (by rw [hsrc.cells]; exact Nat.le_refl _)] at this
  have fin : ∀ {v : Value} {w' : World} {F' : Foot} {Hs : List HProp}, (Builtin.append_ #[tx, ty] ty' #[.slice q.a q.n q.cap, q.src]).run p.P w = .ok v w' →
      (∃ a' cap', v = .slice a' (q.n + m) cap' ∧ Hs = rowT e a' (q.n + m) cap' (xs ++ ys) :: R) → Sat Hs w' F' → Fr C.w0 C.F0 w' F' →
      ∃ v w' F' Hs, (execOp a.eval { dst, op := .call { callee := .builtin .append, args := #[x, y], argTypes := #[tx, ty] }, type := ty', pos, after, guard }).run p.P w = .ok (.value v) w' ∧
        (∃ a' cap', v = .slice a' (q.n + m) cap' ∧ Hs = rowT e a' (q.n + m) cap' (xs ++ ys) :: R) ∧ Sat Hs w' F' ∧ Fr C.w0 C.F0 w' F' := by
    intro v w' F' Hs hr hH hS hF
    refine ⟨v, w', F', Hs, ?_, hH, hS, hF⟩
    have hargs : (#[x, y] : Array Operand).map a.eval = #[.slice q.a q.n q.cap, q.src] := by simp [ha.eval hx, ha.eval hy]
    simp only [execOp, resolve, invoke, builtin, hargs]
    show Sem.run p.P (do pure (Next.value (← Builtin.append_ #[tx, ty] ty' #[.slice q.a q.n q.cap, q.src]))) w = _
    rw [Sem.run_bind, hr]; rfl
  obtain ⟨v1, v2, v3⟩ := hv
  have hys1 : ys.length = m := by have := hsrc.cells; omega
  by_cases hm0 : m = 0
  · subst hm0
    have hys : ys = [] := by simpa using hys1
    subst hys
    have := run_append_nothing (P := p.P) w tx ty ty' e j hdx hji q.a q.n q.cap v2 q.src hS
    exact fin this ⟨q.a, q.cap, rfl, rfl⟩ ⟨F1, F2, ⟨by simpa using v1, by simpa using v2, by simpa using v3⟩, hR, hdis, hF1, hF2⟩ hf
  · by_cases hfit : q.n + m ≤ q.cap
    · cases hqa : q.a with
      | none => rw [hqa] at v3; simp only at v3; omega
      | some ad =>
        rw [hqa] at v3
        obtain ⟨hsp, hoff, rest, hFb, ho, hcap⟩ := v3
        obtain ⟨b, off, spot⟩ := ad
        simp only at hsp hoff hFb ho
        subst hsp; subst hoff
        obtain ⟨w', hst, ho', hw'⟩ := storeCells_T (P := p.P) (cs := ys) (off := 0 + q.n) 0 ho (by simp [v1]; omega) hsrc.one
        have hr : (Builtin.append_ #[tx, ty] ty' #[.slice q.a q.n q.cap, q.src]).run p.P w = .ok (.slice q.a (q.n + m) q.cap) w' := by
          have hcells := hS.cells
          rw [hjs] at hcells
          rw [hqa]
          rcases hdy with ⟨e', hk⟩ | hk <;> simp [Builtin.append_, run_underlying hdx, run_underlying hk, sizeOf, typeInfo, hji, hjs, hS.len, hfit, hcells, Addr.add_none] <;> (simp only [Nat.zero_add] at hst; simp [hst])
        refine fin hr ⟨q.a, q.cap, rfl, rfl⟩ (F' := F) ⟨F1, F2, ⟨by simp [v1, hys1], hfit, ?_⟩, hR.loc (fun c hc => hw'.other c (fun e => by subst e; exact hdis _ hFb hc)), hdis, hF1, hF2⟩ (hw'.fr hf (hF1 _ hFb))
        rw [hqa]
        refine ⟨rfl, rfl, rest.drop ys.length, hFb, ?_, by simp [v1, hys1]; omega⟩
        have e1 : (xs ++ rest).take (0 + q.n + 0) = xs := by
          have : 0 + q.n + 0 = xs.length := by omega
          rw [this, List.take_left]
        have e2 : (xs ++ rest).drop (0 + q.n + 0 + ys.length) = rest.drop ys.length := by
          have : 0 + q.n + 0 + ys.length = xs.length + ys.length := by omega
          rw [this, List.drop_append, List.drop_eq_nil_of_le (by omega), Nat.add_sub_cancel_left, List.nil_append]
        rw [e1, e2] at ho'
        exact ho'
    · have hold : (Builtin.firstCells j.size q.n (.slice q.a q.n q.cap)).run p.P w.drew = .ok xs.toArray w.drew := by
        rw [hjs]
        cases hqa : q.a with
        | none =>
          rw [hqa] at v3
          simp only at v3
          have hn0 : q.n = 0 := by omega
          have hx0 : xs = [] := by rw [hn0] at v1; simpa using v1
          rw [hn0, hx0]
          simp [Builtin.firstCells]
        | some ad =>
          rw [hqa] at v3
          obtain ⟨hsp, hoff, rest, hFb, ho, hcap⟩ := v3
          obtain ⟨b, off, spot⟩ := ad
          simp only at hsp hoff hFb ho
          subst hsp; subst hoff
          have ho : blkAt w.drew b (xs ++ rest) := ho.own.blk
          simp only [Builtin.firstCells]
          rw [loadCells_run ho 0 (q.n * 1) (by simp; omega)]
          simp [v1]
      have hr := run_append_grow_src (P := p.P) w tx ty ty' e j zv hdx hji hjz q.a q.n q.cap xs hold q.src m ys hS (by omega) (by omega) (by rw [hjb, hqb]; exact growslice_fits (by omega) (by omega))
      have hcg : q.n + m ≤ grownCap w (q.n + m) q.cap e := by unfold grownCap; simp only [Question.cut]; omega
      refine fin hr ⟨_, _, rfl, rfl⟩ (F' := fun b => F2 b ∨ b = w.heap.size) ?_ ((hf.fresh _ (w.drawn + 1)).down fun b hb => hb.imp (hF2 b) id)
      refine ⟨fun b => b = w.heap.size, F2, ⟨by simp [v1, hys1], hcg, rfl, rfl, (Builtin.zeroCells zv.cells (grownCap w (q.n + m) q.cap e - (q.n + m))).toList, rfl, ?_, ?_⟩, hR.loc (fun b hb => ?_), fun b h h' => ?_, fun b h => .inr h, fun b h => .inl h⟩
      · refine ⟨0, 0, ?_, .inl rfl⟩
        show (w.heap.push _)[w.heap.size]? = _
        simp
      · have : (Builtin.zeroCells zv.cells (grownCap w (q.n + m) q.cap e - (q.n + m))).toList.length = (grownCap w (q.n + m) q.cap e - (q.n + m)) * q.elem.size := by
          rw [Array.length_toList, zeroCells_len, hzc]; simp [hz]
        rw [this, hq1]; simp [v1, hys1]; omega
      · have := hf.inb b (hF2 b hb)
        show (w.heap.push _)[b]? = _
        rw [Array.getElem?_push_lt this]; simp [this]
      · subst h; exact Nat.lt_irrefl _ (hf.inb _ (hF2 _ h'))
theorem xappT {o : Oper} {d : Tmp} {e : TypeId} {a : Option Addr} {n c m : Nat} {src : Value} (xs : List Value) {ys : List Value} {R : List HProp} (hop : apT p.tt L o.op = some (a, n, c, 1, 1, src)) (hoe : apE p.tt o.op = some e) [pk : Rem H (rowT e a n c xs) R] (hsrc : SrcOk C R 1 src m ys)
    (hb : n + m ≤ 140737488355328) (k : ∀ a' cap', G C (.ops all l :: K) ((d, .slice a' (n + m) cap') :: L) (rowT e a' (n + m) cap' (xs ++ ys) :: R))
    (hg : guardV all L o.guard = some true := by rfl) (hd : o.dst = some d := by rfl) (hn : Nat.blt d fn.ntmps = true := by rfl) : G C (.ops all (o :: l) :: K) L H := by
  unfold apT at hop
  split at hop
  · rename_i a' n' c' k' sz' bytes' z' src' h
    simp only [Option.some.injEq, Prod.mk.injEq] at hop
    obtain ⟨rfl, rfl, rfl, rfl, rfl, rfl⟩ := hop
    exact G.appendT h hoe rfl rfl hsrc hb hg hd hn k
  · contradiction
end
end Go.W

/- Strings: their pieces, '==', bytes as a string, unsafe.String. -/
namespace Go.W

/-! ## A piece of a string -/
def sslO (tt : TypeId → Option TI) (L : Env) (o : Op) : Option (ByteArray × Int × Int) :=
  match o with
  | .slice t x lo hi none => (tt t).bind fun i => match i.k with
    | .string => (evalO L x).bind fun v => match v with
      | .string s => match optI L lo 0, optI L hi s.size with
        | some lo, some hi => some (s, lo, hi)
        | _, _ => none
      | _ => none
    | _ => none
  | _ => none
theorem sslO_run {P : Program} {w : World} {tt : TypeId → Option TI} (ok : ∀ t i, tt t = some i → TIok P t i) {L : Env} {a : Act} {n : Nat} (ha : Agr n L a) {o : Oper} {s : ByteArray} {lo hi : Nat}
    (h : sslO tt L o.op = some (s, (lo : Int), (hi : Int))) (h1 : lo ≤ hi) (h2 : hi ≤ s.size) : (execOp a.eval o).run P w = .ok (.value (.string (s.extract lo hi))) w := by
  obtain ⟨dst, op, ty, pos, after, guard⟩ := o
  unfold sslO at h
  split at h
  · rename_i t x lo' hi' hop
    simp only at hop; subst hop
    cases ht : tt t with
    | none => simp [ht] at h
    | some i =>
      have hd := (ok t i ht).desc
      simp only [ht, Option.bind_some] at h
      split at h
      · rename_i hk
        rw [hk] at hd
        cases hx : evalO L x with
        | none => simp [hx] at h
        | some v =>
          simp only [hx, Option.bind_some] at h
          split at h
          · rename_i s'
            split at h
            · rename_i l0 h0 el eh
              simp only [Option.some.injEq, Prod.mk.injEq] at h
              obtain ⟨rfl, rfl, rfl⟩ := h
              have hb : (Instr.sliceBounds false s'.size s'.size (lo'.map a.eval) (hi'.map a.eval) none).run P w = .ok (lo, hi, s'.size) w := by
                have hh : ∀ y, hi' = some y → ∀ code, (Instr.sliceBound (a.eval y) s'.size code).run P w = .ok hi w := by
                  rintro y rfl code
                  simp only [optI] at eh
                  split at eh
                  · rename_i k' z hy
                    simp only [Option.some.injEq] at eh; subst eh
                    rw [ha.eval hy, bound_run (by omega) (by omega)]; simp
                  · contradiction
                have hl : ∀ y, lo' = some y → ∀ code, (Instr.sliceBound (a.eval y) hi code).run P w = .ok lo w := by
                  rintro y rfl code
                  simp only [optI] at el
                  split at el
                  · rename_i k' z hy
                    simp only [Option.some.injEq] at el; subst el
                    rw [ha.eval hy, bound_run (by omega) (by omega)]; simp
                  · contradiction
                cases hi' with
                | none =>
                  have e2 : s'.size = hi := by simp [optI] at eh; omega
                  subst e2
                  cases lo' with
                  | none => have e1 : lo = 0 := by simp [optI] at el; omega
                            subst e1; simp [Instr.sliceBounds]
                  | some y => simp [Instr.sliceBounds, hl y rfl]
                | some z =>
                  cases lo' with
                  | none => have e1 : lo = 0 := by simp [optI] at el; omega
                            subst e1; simp [Instr.sliceBounds, hh z rfl]
                  | some y => simp [Instr.sliceBounds, hl y rfl, hh z rfl]
              simp only [execOp, Instr.sliceAt, ha.eval hx]
              rw [run_bind_ok (a := .string (s'.extract lo hi)) (w' := w)]
              · rfl
              · rw [run_bind_ok (run_underlying hd)]
                simp only [Instr.slice]
                rw [run_bind_ok (run_underlying hd)]
                simp only [Option.map_none]
                simp [hb]
            · contradiction
          · contradiction
      · contradiction
  · contradiction

/-! ## '==' of strings -/
def seqO (L : Env) (o : Op) : Option (Bool × ByteArray × ByteArray) :=
  match o with
  | .binOp op _ x y _ => (evalO L x).bind fun a => (evalO L y).bind fun b => match op, a, b with
    | .eql, .string s, .string u => some (false, s, u)
    | .neq, .string s, .string u => some (true, s, u)
    | _, _, _ => none
  | _ => none
theorem ba_beq (s u : ByteArray) : (s.toList == u.toList) = decide (s = u) := by
  have h : ∀ x : ByteArray, x.toList = x.data.toList := fun x => ByteArray.toList_eq x
  rw [h, h]
  by_cases e : s = u
  · subst e; simp
  · have : ¬ s.data = u.data := fun h => e (ByteArray.ext h)
    simp [e, this]
theorem seqO_run {P : Program} {w : World} {L : Env} {a : Act} {n : Nat} (ha : Agr n L a) {o : Oper} {neg : Bool} {s u : ByteArray}
    (h : seqO L o.op = some (neg, s, u)) : (execOp a.eval o).run P w = .ok (.value (.bool (neg ^^ decide (s = u)))) w := by
  obtain ⟨dst, op, ty, pos, after, guard⟩ := o
  unfold seqO at h
  split at h
  · rename_i op t' x y q hop
    simp only at hop; subst hop
    cases hxv : evalO L x with
    | none => simp [hxv] at h
    | some vx =>
      cases hyv : evalO L y with
      | none => simp [hxv, hyv] at h
      | some vy =>
        simp only [hxv, hyv, Option.bind_some] at h
        split at h
        · simp only [Option.some.injEq, Prod.mk.injEq] at h
          obtain ⟨rfl, rfl, rfl⟩ := h
          rw [← ba_beq]
          simp [execOp, ha.eval hxv, ha.eval hyv, eqGuard, binOp, Op.stringOp]
        · simp only [Option.some.injEq, Prod.mk.injEq] at h
          obtain ⟨rfl, rfl, rfl⟩ := h
          rw [← ba_beq]
          simp [execOp, ha.eval hxv, ha.eval hyv, eqGuard, binOp, Op.stringOp]
        · contradiction
  · contradiction

/-! ## string(bytes) -/
def cstO (tt : TypeId → Option TI) (L : Env) (o : Op) : Option (Option Addr × Nat × Nat) :=
  match o with
  | .convert s d x => (tt s).bind fun i => (tt d).bind fun j => (evalO L x).bind fun v => match i.k, j.k, v with
    | .slice e, .string, .slice a n c => (tt e).bind fun q => match q.k with
      | .int .u8 => some (a, n, c)
      | _ => none
    | _, _, _ => none
  | _ => none
def bsS (bs : List UInt8) : Value := .string ⟨bs.toArray⟩
theorem viewOf.str {P : Program} {w : World} {q : Nat → List Value → Prop} (hq : ∀ b l, q b l → blkAt w b l) {a : Option Addr} {n cap : Nat} {bs : List UInt8} (h : viewOf q 1 a n cap (bsV bs)) {src dst e : TypeId}
    (hs : P.underlying src = some (.slice e)) (he : P.underlying e = some (.int .u8)) (hd : P.underlying dst = some .string) : (convert src dst (.slice a n cap)).run P w = .ok (bsS bs) w := by
  obtain ⟨h1, h2, h3⟩ := h
  rw [bsV_length, Nat.mul_one] at h1
  cases a with
  | none =>
    simp only at h3
    have : n = 0 := by omega
    subst this
    have e : bs = [] := by simpa using h1
    subst e
    rw [run_convert_bytes_string w src dst e none 0 cap hs he hd]
    simp [Conv.bytesToString]
    rfl
  | some ad =>
    obtain ⟨hsp, pre, rest, hpre, hb, hc⟩ := h3
    obtain ⟨b, off, spot⟩ := ad
    simp only at hsp hpre hb
    subst hsp
    have hb := hq _ _ hb
    rw [← h1]
    refine run_convert_bytes_back w src dst e ⟨b, off, none⟩ cap bs hs he hd fun j hj => ?_
    rw [Addr.add_none]
    refine hb.cell ?_
    rw [List.getElem?_append_right (by omega), List.getElem?_append_left (by rw [bsV_length]; omega), show off + j - pre.length = j by omega, bsV_get hj]
    rfl
theorem viewR.str {P : Program} {w : World} {q : Nat → List Value → Prop} (hq : ∀ b l, q b l → blkAt w b l) {a : Option Addr} {n cap : Nat} {bs : List UInt8} (h : viewR q 1 a n cap (bsV bs)) {src dst e : TypeId}
    (hs : P.underlying src = some (.slice e)) (he : P.underlying e = some (.int .u8)) (hd : P.underlying dst = some .string) : (convert src dst (.slice a n cap)).run P w = .ok (bsS bs) w := by
  rcases h with h | ⟨h1, h2, h3⟩
  · exact h.str hq hs he hd
  · subst h1; subst h2
    have e : bs = [] := by cases bs <;> simp [bsV] at h3 ⊢
    subst e
    cases a with
    | none => exact viewOf.str (q := fun _ _ => False) (fun _ _ h => h.elim) ⟨rfl, Nat.le_refl _, rfl⟩ hs he hd
    | some ad => exact run_convert_bytes_back w src dst e ad 0 [] hs he hd (fun j hj => by simp at hj)
theorem cstO_run {P : Program} {w : World} {tt : TypeId → Option TI} (ok : ∀ t i, tt t = some i → TIok P t i) {L : Env} {a' : Act} {nt : Nat} (ha : Agr nt L a') {o : Oper} {a : Option Addr} {n cap : Nat} {q : Nat → List Value → Prop} (hq : ∀ b l, q b l → blkAt w b l)
    {bs : List UInt8} (hv : viewR q 1 a n cap (bsV bs)) (h : cstO tt L o.op = some (a, n, cap)) : (execOp a'.eval o).run P w = .ok (.value (bsS bs)) w := by
  obtain ⟨dst, op, ty, pos, after, guard⟩ := o
  unfold cstO at h
  split at h
  · rename_i s d x hop
    simp only at hop; subst hop
    cases hts : tt s with
    | none => simp [hts] at h
    | some i =>
      cases htd : tt d with
      | none => simp [hts, htd] at h
      | some j =>
        cases hx : evalO L x with
        | none => simp [hts, htd, hx] at h
        | some v =>
          simp only [hts, htd, hx, Option.bind_some] at h
          have h1 := (ok s i hts).desc
          have h2 := (ok d j htd).desc
          split at h
          · rename_i e a0 n0 c0 hk hk'
            rw [hk] at h1; rw [hk'] at h2
            cases hte : tt e with
            | none => simp [hte] at h
            | some q' =>
              simp only [hte, Option.bind_some] at h
              have h3 := (ok e q' hte).desc
              split at h
              · rename_i hk3
                rw [hk3] at h3
                simp only [Option.some.injEq, Prod.mk.injEq] at h
                obtain ⟨rfl, rfl, rfl⟩ := h
                simp only [execOp, ha.eval hx]
                rw [run_bind_ok (viewR.str hq hv h1 h3 h2)]
                rfl
              · contradiction
          · contradiction
  · contradiction

section
variable {p : Pg} {fn : Func} {rd : List HProp} {post : Post} {C : Ctx p fn rd post} {all : Array Oper} {l : List Oper} {K : List It} {L : Env} {H : List HProp}
theorem xssl {o : Oper} {d : Tmp} {s : ByteArray} {lo' hi' : Int} (lo hi : Nat) (hop : sslO p.tt L o.op = some (s, lo', hi')) (h1 : lo' = lo) (h2 : hi' = hi) (h3 : lo ≤ hi) (h4 : hi ≤ s.size)
    (k : G C (.ops all l :: K) ((d, .string (s.extract lo hi)) :: L) H) (hg : guardV all L o.guard = some true := by rfl) (hd : o.dst = some d := by rfl) (hn : Nat.blt d fn.ntmps = true := by rfl) : G C (.ops all (o :: l) :: K) L H := by
  subst h1; subst h2
  exact G.val1 hg hd (Nat.le_of_ble_eq_true hn) (fun _ w F ha hs hf => ⟨w, F, sslO_run p.ok ha hop h3 h4, hs, hf⟩) k
theorem xseq {o : Oper} {d : Tmp} {neg : Bool} {s u : ByteArray} (b : Bool) (hop : seqO L o.op = some (neg, s, u)) (hb : (neg ^^ decide (s = u)) = b)
    (k : G C (.ops all l :: K) ((d, .bool b) :: L) H) (hg : guardV all L o.guard = some true := by rfl) (hd : o.dst = some d := by rfl) (hn : Nat.blt d fn.ntmps = true := by rfl) : G C (.ops all (o :: l) :: K) L H := by
  subst hb
  exact G.val1 hg hd (Nat.le_of_ble_eq_true hn) (fun a w F ha hs' hf => ⟨w, F, seqO_run ha hop, hs', hf⟩) k
theorem xdseq {f : Nat} (i : Nat) {listed listed' : List Bool} {J : Held} {o : Oper} {d : Tmp} {neg : Bool} {s u : ByteArray} (b : Bool) (ho : all[i]? = some o) (hop : seqO L o.op = some (neg, s, u)) (hb : (neg ^^ decide (s = u)) = b)
    (g : G C (anyI C all f listed' J K :: K) ((d, .bool b) :: L) H) (hok : firstOk all listed i = true := by kernel_rfl) (hset : setL i listed = some listed' := by rfl)
    (hg : guardV all L o.guard = some true := by rfl) (hd : o.dst = some d := by rfl) (hn : Nat.blt d fn.ntmps = true := by rfl) : G C (anyI C all (f + 1) listed J K :: K) L H := by
  subst hb
  exact G.dtake (B := fun _ => True) ho hok hset hd (Nat.le_of_ble_eq_true hn) (fun _ h => h) (fun _ _ _ _ _ => trivial) (fun _ ha => .inl ⟨guardV_wanted ha hg, fun w _ => seqO_run ha hop⟩) g
/-- string(b) of bytes that are read. -/
theorem xcsr {o : Oper} {d : Tmp} {a : Option Addr} {n cap : Nat} {bs : List UInt8} (h : RS C 1 a n cap (bsV bs)) (hop : cstO p.tt L o.op = some (a, n, cap))
    (k : G C (.ops all l :: K) ((d, bsS bs) :: L) H) (hg : guardV all L o.guard = some true := by rfl) (hd : o.dst = some d := by rfl) (hn : Nat.blt d fn.ntmps = true := by rfl) : G C (.ops all (o :: l) :: K) L H :=
  G.val1 hg hd (Nat.le_of_ble_eq_true hn) (fun _ w F ha hs hf => ⟨w, F, cstO_run p.ok ha (fun _ _ hb => hb.1) (h.now hf) hop, hs, hf⟩) k
/-- .. of bytes that are owned. -/
theorem xcso {o : Oper} {d : Tmp} {a : Option Addr} {n cap : Nat} {R : List HProp} (bs : List UInt8) (hop : cstO p.tt L o.op = some (a, n, cap)) [pk : Rem H (sl 1 a n cap (bsV bs)) R]
    (k : G C (.ops all l :: K) ((d, bsS bs) :: L) H) (hg : guardV all L o.guard = some true := by rfl) (hd : o.dst = some d := by rfl) (hn : Nat.blt d fn.ntmps = true := by rfl) : G C (.ops all (o :: l) :: K) L H :=
  G.val1 hg hd (Nat.le_of_ble_eq_true hn) (fun _ w F ha hs hf => by
    obtain ⟨F1, F2, h1, _⟩ := pk.ent w F hs
    have h1 : viewOf (fun b l => F1 b ∧ ownAt w b l) 1 a n cap (bsV bs) := h1
    exact ⟨w, F, cstO_run p.ok ha (fun _ _ hb => hb.2.blk) (.inl h1) hop, hs, hf⟩) k

/-! ## unsafe.String(unsafe.SliceData(b), len(b)) -/
def usdO (L : Env) (o : Op) : Option (Addr × Nat) :=
  match o with
  | .call ⟨.builtin .unsafeSliceData, ⟨[x]⟩, _⟩ => (evalO L x).bind fun v => match v with
    | .slice (some a) _ c => some (a, c)
    | _ => none
  | _ => none
theorem xusd {o : Oper} {d : Tmp} {a : Addr} {c : Nat} (hop : usdO L o.op = some (a, c)) (hc : c ≠ 0) (k : G C (.ops all l :: K) ((d, .pointer (some a)) :: L) H) (hg : guardV all L o.guard = some true := by rfl)
    (hd : o.dst = some d := by rfl) (hn : Nat.blt d fn.ntmps = true := by rfl) : G C (.ops all (o :: l) :: K) L H := by
  refine G.val1 hg hd (Nat.le_of_ble_eq_true hn) (fun act w F ha hs hf => ⟨w, F, ?_, hs, hf⟩) k
  obtain ⟨dst, op, ty, pos, after, guard⟩ := o
  unfold usdO at hop
  split at hop
  · rename_i x ts hop'
    simp only at hop'; subst hop'
    cases hx : evalO L x with
    | none => simp [hx] at hop
    | some v =>
      simp only [hx, Option.bind_some] at hop
      split at hop
      · rename_i a' n' c'
        simp only [Option.some.injEq, Prod.mk.injEq] at hop
        obtain ⟨rfl, rfl⟩ := hop
        have hargs : (#[x] : Array Operand).map act.eval = #[.slice (some a') n' c'] := by simp [ha.eval hx]
        simp only [execOp, resolve, invoke, builtin, hargs]
        have h := Lib.run_unsafeSliceData_row (P := p.P) w ts ty a' n' c' hc
        show Sem.run p.P (do pure (Next.value (← Builtin.unsafeSliceData_ ts ty #[.slice (some a') n' c']))) w = _
        rw [Sem.run_bind, h]; rfl
      · contradiction
  · contradiction

def usnO (tt : TypeId → Option TI) (L : Env) (o : Op) : Option (TypeId × Option Addr × Int) :=
  match o with
  | .call ⟨.builtin .unsafeString, ⟨[x, y]⟩, ⟨[tx, _]⟩⟩ => (tt tx).bind fun i => (evalO L x).bind fun v => (evalO L y).bind fun u => match i.k, v, u with
    | .ptr e, .pointer a, .int .i64 n => (tt e).bind fun j => bif Nat.beq j.size 1 then some (e, a, n) else none
    | _, _, _ => none
  | _ => none
/-- unsafe.String over the row: its bytes; the row is given up. -/
theorem xusn {o : Oper} {d : Tmp} {e : TypeId} {b n cap : Nat} {m : Int} {bs : List UInt8} {R : List HProp} (hop : usnO p.tt L o.op = some (e, some ⟨b, 0, none⟩, m)) (hm : m = (n : Int)) (h0 : 0 < n) (hl : n ≤ 1000000000) [pk : Rem H (rowT e (some ⟨b, 0, none⟩) n cap (bsV bs)) R]
    (k : G C (.ops all l :: K) ((d, bsS bs) :: L) R) (hg : guardV all L o.guard = some true := by rfl)
    (hd : o.dst = some d := by rfl) (hn : Nat.blt d fn.ntmps = true := by rfl) : G C (.ops all (o :: l) :: K) L H := by
  subst hm
  refine G.val1 hg hd (Nat.le_of_ble_eq_true hn) (fun act w F ha hs hf => ?_) k
  obtain ⟨F1, F2, ⟨v1, v2, _, _, rest, hFb, ho, hcap⟩, hR, hdis, hF1, hF2⟩ := pk.ent w F hs
  rw [bsV_length] at v1
  have hsh := ho.shape
  have hlt : b < w.heap.size := hf.inb b (hF1 b hFb)
  refine ⟨w.freeze ⟨b, 0, none⟩ n, F2, ?_, hR.loc (fun c hc => ?_), ?_⟩
  · obtain ⟨dst, op, ty, pos, after, guard⟩ := o
    unfold usnO at hop
    split at hop
    · rename_i x y tx ty2 hop'
      simp only at hop'; subst hop'
      cases ht : p.tt tx with
      | none => simp [ht] at hop
      | some i =>
        have hdx := (p.ok tx i ht).desc
        cases hx : evalO L x with
        | none => simp [ht, hx] at hop
        | some v =>
          cases hy : evalO L y with
          | none => simp [ht, hx, hy] at hop
          | some u =>
            simp only [ht, hx, hy, Option.bind_some] at hop
            split at hop
            · rename_i e' a' n' hk
              rw [hk] at hdx
              cases hte : p.tt e' with
              | none => simp [hte] at hop
              | some j =>
                simp only [hte, Option.bind_some] at hop
                cases hj : Nat.beq j.size 1 with
                | false => simp [hj] at hop
                | true =>
                  simp only [hj, cond_true, Option.some.injEq, Prod.mk.injEq] at hop
                  obtain ⟨rfl, rfl, rfl⟩ := hop
                  obtain ⟨ji, hji, hjs, _⟩ := (p.ok e' j hte).info
                  have hc1 : p.P.cellsOf e' = 1 := by simp [Program.cellsOf, hji, hjs, beq_true hj]
                  have hargs : (#[x, y] : Array Operand).map act.eval = #[.pointer (some ⟨b, 0, none⟩), .int .i64 (n : Int)] := by simp [ha.eval hx, ha.eval hy]
                  simp only [execOp, resolve, invoke, builtin, hargs]
                  have h := Lib.run_unsafeString_row (P := p.P) w tx ty2 ty e' hdx hc1 b _ hsh bs (by rintro rfl; simp at v1; omega) (by simp [bsV_length]) (by omega) (fun j' x' hj' => by
                    have hlt' : j' < bs.length := (List.getElem?_eq_some_iff.1 hj').1
                    rw [Addr.add_none]
                    refine ho.own.blk.cell ?_
                    rw [Nat.zero_add, List.getElem?_append_left (by rw [bsV_length]; exact hlt'), bsV_get hlt']
                    simp only [List.getElem?_eq_getElem hlt', Option.some.injEq] at hj'
                    rw [hj']; rfl)
                  rw [v1] at h
                  show Sem.run p.P (do pure (Next.value (← Builtin.unsafeString_ #[tx, ty2] ty #[.pointer (some ⟨b, 0, none⟩), .int .i64 (n : Int)]))) w = _
                  rw [Sem.run_bind, h]; rfl
            · contradiction
    · contradiction
  · have hne : c ≠ b := by rintro rfl; exact hdis _ hFb hc
    unfold World.freeze
    split
    · rfl
    · simp only [Array.getElem?_modify]
      rw [if_neg (by omega)]
  · have h1 : (w.freeze ⟨b, 0, none⟩ n).heap.size = w.heap.size := by unfold World.freeze; split <;> simp
    refine ⟨by rw [h1]; exact hf.size, fun c hc hnc => ?_, fun c hc => hf.own c (hF2 c hc), fun c hc => by rw [h1]; exact hf.inb c (hF2 c hc), ?_, ?_, ?_⟩
    · have hne : c ≠ b := by rintro rfl; exact hnc (hf.own _ (hF1 _ hFb) hc)
      rw [← hf.kept c hc hnc]
      unfold World.freeze
      split
      · rfl
      · simp only [Array.getElem?_modify]
        rw [if_neg (by omega)]
    all_goals (unfold World.freeze; split <;> first | exact hf.tape | exact hf.os | exact hf.out)
end
end Go.W

/- string(bytes) in a region that draws its order; pieces of what may be read. -/
namespace Go.W
section
variable {p : Pg} {fn : Func} {rd : List HProp} {post : Post} {C : Ctx p fn rd post} {all : Array Oper} {l : List Oper} {K : List It} {L : Env} {H : List HProp}
theorem xdcst {f : Nat} (i : Nat) {listed listed' : List Bool} {J : Held} {o : Oper} {d : Tmp} {a : Option Addr} {n cap : Nat} (bs : List UInt8) (ho : all[i]? = some o) (hop : cstO p.tt L o.op = some (a, n, cap))
    (g : G C (anyI C all f listed' ((i, .view 1 a n cap (bsV bs)) :: J) K :: K) ((d, bsS bs) :: L) H)
    (hok : firstOk all listed i = true := by kernel_rfl) (hset : setL i listed = some listed' := by rfl) (hg : guardV all L o.guard = some true := by rfl) (hd : o.dst = some d := by rfl) (hn : Nat.blt d fn.ntmps = true := by rfl) :
    G C (anyI C all (f + 1) listed J K :: K) L H :=
  G.dhold (.view 1 a n cap (bsV bs)) ho hok hset (fun _ ha _w hb => cstO_run p.ok ha (fun _ _ h => h) hb hop) hg hd hn g
theorem xcst {o : Oper} {d : Tmp} {a : Option Addr} {n cap : Nat} (bs : List UInt8) (hop : cstO p.tt L o.op = some (a, n, cap)) [hr : RdOk C H (slR 1 a n cap (bsV bs))]
    (k : G C (.ops all l :: K) ((d, bsS bs) :: L) H) (hg : guardV all L o.guard = some true := by rfl) (hd : o.dst = some d := by rfl) (hn : Nat.blt d fn.ntmps = true := by rfl) : G C (.ops all (o :: l) :: K) L H :=
  G.val1 hg hd (Nat.le_of_ble_eq_true hn) (fun _ w F ha hs hf => by
    obtain ⟨S, hS, _⟩ := hr.ok w F F hs (fun _ h => h) hf
    have hS : viewR (fun b l => S b ∧ blkAt w b l) 1 a n cap (bsV bs) := hS
    exact ⟨w, F, cstO_run p.ok ha (fun _ _ hb => hb.2) hS hop, hs, hf⟩) k
/-- The head of what may be read. -/
theorem RdOk.head {b off n cap : Nat} {bs : List UInt8} (m : Nat) (h : RdOk C H (slR 1 (some ⟨b, off, none⟩) n cap (bsV bs))) (hm : m ≤ n) : RdOk C H (slR 1 (some ⟨b, off, none⟩) m cap (bsV (bs.take m))) := by
  have h2 := h.sub (Nat.zero_le m) hm
  rw [Nat.sub_zero, Nat.sub_zero, Nat.mul_one, Nat.zero_mul, List.drop_zero, bsV_take] at h2
  have e : subA (some ⟨b, off, none⟩) 0 1 cap = some ⟨b, off, none⟩ := by
    unfold subA; split
    · rfl
    · simp [Addr.add]
  rw [e] at h2
  exact h2
end
theorem bsS_inj {a b : List UInt8} : (bsS a = bsS b) ↔ a = b := by
  unfold bsS
  constructor
  · intro h; simpa using h
  · rintro rfl; rfl
theorem ba_eq {a b : List UInt8} : ((⟨a.toArray⟩ : ByteArray) = ⟨b.toArray⟩) ↔ a = b := by simp
end Go.W
