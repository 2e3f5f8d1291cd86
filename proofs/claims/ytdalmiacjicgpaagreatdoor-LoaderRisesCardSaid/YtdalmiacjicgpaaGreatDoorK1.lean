/- Part of the proof: Wa, Wb, Wc, Wd, We, Wf, Wg, Wh -/
import Derived.WalkKit
import Derived.Laws.Append
import Derived.Deep.AppendSrc
import Derived.Deep.Upon
/- The base of this claim's walks: symbolic frames, owned memory (a small separation logic) over the walk's 'Code.wp'. No program is named here. -/
namespace Go.W

/-! ## Frames -/
abbrev Env := List (Nat × Value)
def look : Env → Nat → Option Value
  | [], _ => none
  | (k, v) :: L, n => bif Nat.beq n k then some v else look L n

structure Agr (n : Nat) (L : Env) (a : Act) : Prop where
  size : a.tmps.size = n
  defers : a.defers = []
  cell : ∀ t v, look L t = some v → a.tmps[t]? = some v

def evalO (L : Env) : Operand → Option Value
  | .tmp t => look L t
  | .const v => some v
  | .global g => some (.pointer (some ⟨g, 0, none⟩))
  | .func f => some (.func (.func f) #[] #[])

theorem Agr.eval {n : Nat} {L : Env} {a : Act} (h : Agr n L a) {x : Operand} {v : Value} (hx : evalO L x = some v) : a.eval x = v := by
  cases x with
  | tmp t =>
    have := h.cell t v hx
    simp [Act.eval, Array.getD_eq_getD_getElem?, this]
  | const c => simpa [evalO, Act.eval] using hx
  | global g => simpa [evalO, Act.eval] using hx
  | func f => simpa [evalO, Act.eval] using hx

theorem beq_true {a b : Nat} (h : Nat.beq a b = true) : a = b := Nat.eq_of_beq_eq_true h

theorem Agr.put {n : Nat} {L : Env} {a : Act} (h : Agr n L a) {d : Nat} (hd : d < n) (v : Value) : Agr n ((d, v) :: L) (a.put (some d) v) := by
  refine ⟨by simpa [Act.put] using h.size, h.defers, fun t u ht => ?_⟩
  simp only [look] at ht
  simp only [Act.put]
  cases hb : Nat.beq t d with
  | true =>
    rw [hb] at ht
    simp at ht
    subst ht
    have := beq_true hb
    subst this
    have hs := h.size
    simp [hs, hd]
  | false =>
    rw [hb] at ht
    simp at ht
    have hne : d ≠ t := by
      rintro rfl
      have : Nat.beq d d = true := Nat.beq_refl d
      rw [this] at hb; exact Bool.noConfusion hb
    rw [Array.getElem?_setIfInBounds_ne hne]
    exact h.cell t u ht

theorem Agr.putNone {n : Nat} {L : Env} {a : Act} (h : Agr n L a) (v : Value) : Agr n L (a.put none v) := h

/-- Every slot that the shorter list names is so in the longer one. -/
def Sub : Env → Env → Prop
  | [], _ => True
  | (k, v) :: L', L => look L k = some v ∧ Sub L' L

theorem Sub.look {L' L : Env} (h : Sub L' L) : ∀ t v, look L' t = some v → look L t = some v := by
  induction L' with
  | nil => intro t v ht; simp [W.look] at ht
  | cons p L' ih =>
    obtain ⟨k, u⟩ := p
    intro t v ht
    simp only [W.look] at ht
    cases hb : Nat.beq t k with
    | true => rw [hb] at ht; simp at ht; subst ht; rw [beq_true hb]; exact h.1
    | false => rw [hb] at ht; simp at ht; exact ih h.2 t v ht

theorem Agr.sub {n : Nat} {L L' : Env} {a : Act} (h : Agr n L a) (hs : Sub L' L) : Agr n L' a :=
  ⟨h.size, h.defers, fun t v ht => h.cell t v (hs.look t v ht)⟩

/-! ## Memory -/
abbrev Foot := Nat → Prop

/-- An assertion on memory: what it says, of which blocks. -/
structure HProp where
  holds : World → Foot → Prop
  loc : ∀ (w w' : World) (F : Foot), (∀ b, F b → w'.heap[b]? = w.heap[b]?) → holds w F → holds w' F
  up : ∀ (w : World) (F F' : Foot), (∀ b, F b → F' b) → holds w F → holds w F'

def Sat : List HProp → World → Foot → Prop
  | [], _, _ => True
  | h :: H, w, F => ∃ F1 F2 : Foot, h.holds w F1 ∧ Sat H w F2 ∧ (∀ b, F1 b → ¬ F2 b) ∧ (∀ b, F1 b → F b) ∧ (∀ b, F2 b → F b)

theorem Sat.loc {H : List HProp} : ∀ {w w' : World} {F : Foot}, (∀ b, F b → w'.heap[b]? = w.heap[b]?) → Sat H w F → Sat H w' F := by
  induction H with
  | nil => intros; trivial
  | cons h H ih =>
    rintro w w' F hw ⟨F1, F2, h1, h2, hd, ha, hb⟩
    exact ⟨F1, F2, h.loc w w' F1 (fun b hb' => hw b (ha b hb')) h1, ih (fun b hb' => hw b (hb b hb')) h2, hd, ha, hb⟩

theorem Sat.up {H : List HProp} {w : World} {F F' : Foot} (hF : ∀ b, F b → F' b) (h : Sat H w F) : Sat H w F' := by
  cases H with
  | nil => trivial
  | cons x H => obtain ⟨F1, F2, h1, h2, hd, ha, hb⟩ := h; exact ⟨F1, F2, h1, h2, hd, fun b h => hF b (ha b h), fun b h => hF b (hb b h)⟩

theorem Sat.append {H H' : List HProp} {w : World} : ∀ {F : Foot}, Sat (H ++ H') w F ↔
    ∃ F1 F2 : Foot, Sat H w F1 ∧ Sat H' w F2 ∧ (∀ b, F1 b → ¬ F2 b) ∧ (∀ b, F1 b → F b) ∧ (∀ b, F2 b → F b) := by
  induction H with
  | nil =>
    intro F
    constructor
    · intro h; exact ⟨fun _ => False, F, trivial, h, fun _ h => h.elim, fun _ h => h.elim, fun _ h => h⟩
    · rintro ⟨F1, F2, _, h, _, _, hb⟩; exact h.up hb
  | cons x H ih =>
    intro F
    constructor
    · rintro ⟨F1, F2, h1, h2, hd, ha, hb⟩
      obtain ⟨G1, G2, g1, g2, gd, ga, gb⟩ := ih.1 h2
      refine ⟨fun b => F1 b ∨ G1 b, G2, ⟨F1, G1, h1, g1, fun b h h' => hd b h (ga b h'), fun b h => .inl h, fun b h => .inr h⟩, g2, ?_, ?_, ?_⟩
      · rintro b (h | h) h'
        · exact hd b h (gb b h')
        · exact gd b h h'
      · rintro b (h | h)
        · exact ha b h
        · exact hb b (ga b h)
      · exact fun b h => hb b (gb b h)
    · rintro ⟨F1, F2, ⟨G1, G2, g1, g2, gd, ga, gb⟩, h2, hd, ha, hb⟩
      refine ⟨G1, fun b => G2 b ∨ F2 b, g1, ih.2 ⟨G2, F2, g2, h2, fun b h h' => hd b (gb b h) h', fun b h => .inl h, fun b h => .inr h⟩, ?_, ?_, ?_⟩
      · rintro b h (h' | h')
        · exact gd b h h'
        · exact hd b (ga b h) h'
      · exact fun b h => ha b (ga b h)
      · rintro b (h | h)
        · exact ha b (gb b h)
        · exact hb b h

theorem Sat.cons {x : HProp} {H : List HProp} {w : World} {F : Foot} : Sat (x :: H) w F ↔
    ∃ F1 F2 : Foot, x.holds w F1 ∧ Sat H w F2 ∧ (∀ b, F1 b → ¬ F2 b) ∧ (∀ b, F1 b → F b) ∧ (∀ b, F2 b → F b) := Iff.rfl

/-- What can be taken out of a list: some things of it, and the rest. -/
def Ent (H H' : List HProp) : Prop := ∀ w F, Sat H w F → Sat H' w F
theorem Ent.refl (H : List HProp) : Ent H H := fun _ _ h => h
theorem Ent.trans {H H' H'' : List HProp} (h : Ent H H') (h' : Ent H' H'') : Ent H H'' := fun w F s => h' w F (h w F s)
theorem Ent.nil (H : List HProp) : Ent H [] := fun _ _ _ => trivial
theorem Ent.tail (x : HProp) (H : List HProp) : Ent (x :: H) H := fun _ _ ⟨_, _, _, h2, _, _, hb⟩ => h2.up hb
theorem Ent.cons (x : HProp) {H H' : List HProp} (h : Ent H H') : Ent (x :: H) (x :: H') :=
  fun w _ ⟨F1, F2, h1, h2, hd, ha, hb⟩ => ⟨F1, F2, h1, h w F2 h2, hd, ha, hb⟩
theorem Ent.swap (x y : HProp) (H : List HProp) : Ent (x :: y :: H) (y :: x :: H) := by
  rintro w F ⟨F1, F2, h1, ⟨G1, G2, g1, g2, gd, ga, gb⟩, hd, ha, hb⟩
  refine ⟨G1, fun b => F1 b ∨ G2 b, g1, ⟨F1, G2, h1, g2, fun b h h' => hd b h (gb b h'), fun b h => .inl h, fun b h => .inr h⟩, ?_, fun b h => hb b (ga b h), ?_⟩
  · rintro b h (h' | h')
    · exact hd b h' (ga b h)
    · exact gd b h h'
  · rintro b (h | h)
    · exact ha b h
    · exact hb b (gb b h)

/-- 'x' is taken out of 'H', 'R' is left. -/
class Rem (H : List HProp) (x : HProp) (R : outParam (List HProp)) : Prop where
  ent : Ent H (x :: R)
instance Rem.here (x : HProp) (H : List HProp) : Rem (x :: H) x H := ⟨Ent.refl _⟩
instance (priority := low) Rem.there (y x : HProp) (H R : List HProp) [r : Rem H x R] : Rem (y :: H) x (y :: R) :=
  ⟨(Ent.cons y r.ent).trans (Ent.swap y x R)⟩

class Pick (H X : List HProp) (R : outParam (List HProp)) : Prop where
  ent : Ent H (X ++ R)
instance Pick.nil (H : List HProp) : Pick H [] H := ⟨Ent.refl _⟩
instance Pick.cons (x : HProp) (X H R R' : List HProp) [r : Rem H x R] [p : Pick R X R'] : Pick H (x :: X) R' :=
  ⟨r.ent.trans (Ent.cons x p.ent)⟩

theorem Pick.toEnt {H X R : List HProp} (p : Pick H X R) : Ent H X := fun w F s => by
  obtain ⟨F1, F2, h1, _, _, ha, _⟩ := Sat.append.1 (p.ent w F s)
  exact h1.up ha

/-! ## A block of cells -/
def blkAt (w : World) (b : Nat) (l : List Value) : Prop := ∃ T fr, w.heap[b]? = some (.cells l.toArray T fr)
def ownAt (w : World) (b : Nat) (l : List Value) : Prop :=
  ∃ T lo hi, w.heap[b]? = some (.cells l.toArray T (lo, hi)) ∧ (hi = lo ∨ l.length ≤ lo)

theorem ownAt.blk {w : World} {b : Nat} {l : List Value} : ownAt w b l → blkAt w b l := fun ⟨T, _, _, h, _⟩ => ⟨T, _, h⟩

/-- A block that may be read. -/
def rdb (b : Nat) (l : List Value) : HProp where
  holds w F := F b ∧ blkAt w b l
  loc w w' F hw := fun ⟨hb, T, fr, h⟩ => ⟨hb, T, fr, by rw [hw b hb]; exact h⟩
  up w F F' hF := fun ⟨hb, h⟩ => ⟨hF b hb, h⟩
/-- A block that is owned. -/
def pts (b : Nat) (l : List Value) : HProp where
  holds w F := F b ∧ ownAt w b l
  loc w w' F hw := fun ⟨hb, T, _, _, h, hf⟩ => ⟨hb, T, _, _, by rw [hw b hb]; exact h, hf⟩
  up w F F' hF := fun ⟨hb, h⟩ => ⟨hF b hb, h⟩

theorem blkAt.cell {w : World} {b : Nat} {l : List Value} (h : blkAt w b l) {off : Nat} {v : Value} (hv : l[off]? = some v) : w.cell? ⟨b, off, none⟩ = some v := by
  obtain ⟨T, fr, h⟩ := h
  simp [World.cell?, h, hv]

theorem ownAt.free {w : World} {b : Nat} {l : List Value} (h : ownAt w b l) {off : Nat} (ho : off < l.length) : w.frozen? ⟨b, off, none⟩ = false := by
  obtain ⟨T, lo, hi, h, hf⟩ := h
  simp [World.frozen?, h]
  omega

theorem ownAt.set {w : World} {b : Nat} {l : List Value} (h : ownAt w b l) (off : Nat) (v : Value) : ownAt (w.setCell ⟨b, off, none⟩ v) b (l.set off v) := by
  obtain ⟨T, lo, hi, h, hf⟩ := h
  refine ⟨T, lo, hi, ?_, by simpa using hf⟩
  have hb : b < w.heap.size := by
    rcases Nat.lt_or_ge b w.heap.size with h' | h'
    · exact h'
    · simp [Array.getElem?_eq_none h'] at h
  have hh : w.heap[b] = .cells l.toArray T (lo, hi) := by simpa [Array.getElem?_eq_getElem hb] using h
  simp only [World.setCell]
  rw [Array.getElem?_modify]
  simp [Array.getElem?_eq_getElem hb, hh]

theorem setCell_other {w : World} {a : Addr} {v : Value} {c : Nat} (h : c ≠ a.block) : (w.setCell a v).heap[c]? = w.heap[c]? := by
  simp only [World.setCell]
  rw [Array.getElem?_modify, if_neg (fun h' => h h'.symm)]
theorem setCell_size {w : World} {a : Addr} {v : Value} : (w.setCell a v).heap.size = w.heap.size := by
  simp [World.setCell]

/-! ## What a call may do: blocks that it does not own stay -/
structure Fr (w0 : World) (F0 : Foot) (w : World) (F : Foot) : Prop where
  size : w0.heap.size ≤ w.heap.size
  kept : ∀ b, b < w0.heap.size → ¬ F0 b → w.heap[b]? = w0.heap[b]?
  own : ∀ b, F b → b < w0.heap.size → F0 b
  inb : ∀ b, F b → b < w.heap.size
  tape : w.tape = w0.tape
  os : w.os = w0.os
  out : w.output = w0.output

theorem Fr.refl {w : World} {F : Foot} (h : ∀ b, F b → b < w.heap.size) : Fr w F w F :=
  ⟨Nat.le_refl _, fun _ _ _ => rfl, fun _ h _ => h, h, rfl, rfl, rfl⟩

theorem Fr.down {w0 w : World} {F0 F F' : Foot} (h : Fr w0 F0 w F) (hF : ∀ b, F' b → F b) : Fr w0 F0 w F' :=
  ⟨h.size, h.kept, fun b hb => h.own b (hF b hb), fun b hb => h.inb b (hF b hb), h.tape, h.os, h.out⟩

theorem Fr.drew {w0 w : World} {F0 F : Foot} (h : Fr w0 F0 w F) (n : Nat) : Fr w0 F0 { w with drawn := n } F :=
  ⟨h.size, h.kept, h.own, h.inb, h.tape, h.os, h.out⟩

/-- A callee's frame inside the caller's. -/
theorem Fr.call {w0 w w' : World} {F0 F Fc Fr' F' : Foot} (h : Fr w0 F0 w F) (hc : Fr w Fc w' F') (h1 : ∀ b, Fc b → F b) (h2 : ∀ b, Fr' b → F b) (hd : ∀ b, Fc b → ¬ Fr' b) :
    Fr w0 F0 w' (fun b => F' b ∨ Fr' b) ∧ (∀ b, F' b → ¬ Fr' b) ∧ (∀ b, Fr' b → w'.heap[b]? = w.heap[b]?) := by
  have hk : ∀ b, Fr' b → w'.heap[b]? = w.heap[b]? := fun b hb => hc.kept b (h.inb b (h2 b hb)) (fun hf => hd b hf hb)
  refine ⟨⟨Nat.le_trans h.size hc.size, ?_, ?_, ?_, hc.tape.trans h.tape, hc.os.trans h.os, hc.out.trans h.out⟩, ?_, hk⟩
  · intro b hb hn
    rw [hc.kept b (Nat.lt_of_lt_of_le hb h.size) (fun hf => hn (h.own b (h1 b hf) hb)), h.kept b hb hn]
  · rintro b (hb | hb) hlt
    · exact h.own b (h1 b (hc.own b hb (Nat.lt_of_lt_of_le hlt h.size))) hlt
    · exact h.own b (h2 b hb) hlt
  · rintro b (hb | hb)
    · exact hc.inb b hb
    · exact Nat.lt_of_lt_of_le (h.inb b (h2 b hb)) hc.size
  · intro b hb hr
    exact hd b (hc.own b hb (h.inb b (h2 b hr))) hr

/-! ## Contracts -/
/-- The things that are only read: each holds, of blocks that are not owned. -/
def Rd (rd : List HProp) (w : World) (F : Foot) : Prop := ∀ r ∈ rd, ∃ S : Foot, r.holds w S ∧ (∀ b, S b → b < w.heap.size) ∧ ∀ b, S b → ¬ F b

def Callable (P : Program) (f : FuncId) : Prop := ∀ (args : Array Value) (w : World), (callFunc f args).run P w = .ok (.enter f args) w

abbrev Post := Value → List HProp → Prop

def Res (w0 : World) (F0 : Foot) (post : Post) : Ending → World → Prop := fun e w' => ∃ v H' F', e = .returned v ∧ post v H' ∧ Sat H' w' F' ∧ Fr w0 F0 w' F'

/-- A CONTRACT: called with these arguments, where 'rd' may be read and 'H' is owned, it returns, 'post' holds, and nothing else of what was there has changed. -/
structure Fun (P : Program) (f : FuncId) (args : List Value) (rd H : List HProp) (post : Post) : Prop where
  callable : Callable P f
  calls : ∀ (w : World) (F : Foot), Rd rd w F → Sat H w F → (∀ b, F b → b < w.heap.size) → Calls P f args.toArray w (Res w F post)

theorem Fun.mono {P : Program} {f : FuncId} {args : List Value} {rd H : List HProp} {post post' : Post} (h : Fun P f args rd H post) (hp : ∀ v H', post v H' → post' v H') : Fun P f args rd H post' :=
  ⟨h.callable, fun w F hr hs hi => (h.calls w F hr hs hi).mono fun _ _ ⟨v, H', F', he, hp', hs', hf⟩ => ⟨v, H', F', he, hp v H' hp', hs', hf⟩⟩

theorem Rd.nil {w : World} {F : Foot} : Rd [] w F := fun r hr => by cases hr

/-! ## What is still to run -/
inductive It where
  | code (c : Code)
  | ops (all : Array Oper) (l : List Oper)
  | blk (id : Nat)
  | fin (post : Act → World → Prop)

/-! ### What is known of the program's types -/
inductive TK where
  | int (k : IntKind) | bool | string | ptr (e : TypeId) | slice (e : TypeId) | arr (n : Nat) (e : TypeId) | str (fs : List (Nat × TypeId)) | iface | other
structure TI where
  k : TK
  size : Nat
  bytes : Nat
  zero : List Value

structure TIok (P : Program) (t : TypeId) (i : TI) : Prop where
  info : ∃ j, P.info? t = some j ∧ j.size = i.size ∧ j.bytes = i.bytes ∧ ∃ z, j.zero = some z ∧ z.cells = i.zero.toArray
  desc : match i.k with
    | .int k => P.underlying t = some (.int k)
    | .bool => P.underlying t = some .bool
    | .string => P.underlying t = some .string
    | .ptr e => P.underlying t = some (.pointer e)
    | .slice e => P.underlying t = some (.slice e)
    | .arr n e => P.underlying t = some (.array n e)
    | .str fs => ∃ l : List Field, P.underlying t = some (.struct l.toArray) ∧ l.map (fun f => (f.offset, f.type)) = fs
    | .iface => ∃ ms, P.underlying t = some (.interface ms)
    | .other => ∃ d, P.underlying t = some d ∧ (match d with | .int _ | .struct _ | .array _ _ | .interface _ | .slice _ => False | _ => True)

/-- A program, and what is known of its types. -/
structure Pg where
  P : Program
  tt : TypeId → Option TI
  ok : ∀ t i, tt t = some i → TIok P t i

structure Ctx (p : Pg) (fn : Func) (rd : List HProp) (post : Post) where
  w0 : World
  F0 : Foot
  hrd : Rd rd w0 F0

section
variable {p : Pg} {fn : Func} {rd : List HProp} {post : Post}

def sem (C : Ctx p fn rd post) : List It → Exit → Act → World → Prop
  | [] => bodyPost p.P fn (Res C.w0 C.F0 post)
  | .code c :: K => Exit.then (fun a w => c.wp p.P (sem C K) a w) (sem C K)
  | .ops all l :: K => Exit.then (fun a w => wpList p.P all (sem C K) l a w) (sem C K)
  | .blk id :: K => Exit.inBlock id (sem C K)
  | .fin post :: K => Exit.then post (sem C K)

/-- THE GOAL OF A WALK: what is still to run, the slots, what is owned. -/
def G (C : Ctx p fn rd post) (K : List It) (L : Env) (H : List HProp) : Prop :=
  ∀ a w F, Agr fn.ntmps L a → Sat H w F → Fr C.w0 C.F0 w F → sem C K .normal a w

/-! ### Structure -/
def popTo (id : Nat) : List It → Option (List It)
  | [] => none
  | .blk id' :: K => bif Nat.beq id' id then some K else popTo id K
  | _ :: K => popTo id K

theorem sem_exit {C : Ctx p fn rd post} {id : Nat} {a : Act} {w : World} : ∀ {K K' : List It}, popTo id K = some K' → sem C K' .normal a w → sem C K (.exit id) a w
  | [], K', h, _ => by simp [popTo] at h
  | .blk id' :: K, K', h, hs => by
    simp only [popTo] at h
    simp only [sem, Exit.inBlock]
    cases hb : Nat.beq id' id with
    | true => rw [hb] at h; simp at h; subst h; rw [if_pos (beq_true hb).symm]; exact hs
    | false =>
      rw [hb] at h; simp at h
      have : ¬ id = id' := by rintro rfl; rw [Nat.beq_refl] at hb; exact Bool.noConfusion hb
      rw [if_neg this]; exact sem_exit h hs
  | .code c :: K, K', h, hs => sem_exit (K := K) h hs
  | .ops all l :: K, K', h, hs => sem_exit (K := K) h hs
  | .fin p :: K, K', h, hs => sem_exit (K := K) h hs

/-- One step of structure. -/
def stepI : List It → Option (List It)
  | .code (.seq x y) :: K => some (.code x :: .code y :: K)
  | .code .skip :: K => some K
  | .code (.label _) :: K => some K
  | .code (.block id c) :: K => some (.code c :: .blk id :: K)
  | .code (.region _ ops false) :: K => some (.ops ops ops.toList :: K)
  | .code (.exit id) :: K => popTo id K
  | .ops _ [] :: K => some K
  | .blk _ :: K => some K
  | _ => none

theorem G.st {C : Ctx p fn rd post} {K K' : List It} {L : Env} {H : List HProp} (h : stepI K = some K') (g : G C K' L H) : G C K L H := by
  intro a w F ha hs hf
  have g := g a w F ha hs hf
  cases K with
  | nil => simp [stepI] at h
  | cons x K =>
    cases x with
    | code c =>
      cases c with
      | seq x y => simp only [stepI, Option.some.injEq] at h; subst h; exact wp_seq g
      | skip => simp only [stepI, Option.some.injEq] at h; subst h; exact wp_skip g
      | label l => simp only [stepI, Option.some.injEq] at h; subst h; exact wp_label g
      | block id c => simp only [stepI, Option.some.injEq] at h; subst h; exact wp_block g
      | region id ops d =>
        cases d with
        | true => simp [stepI] at h
        | false =>
          simp only [stepI, Option.some.injEq] at h; subst h
          exact wp_region_list g
      | exit id => exact wp_exit (sem_exit h g)
      | cond c x y => simp [stepI] at h
      | loop c => simp [stepI] at h
      | rangeFunc f p a b => simp [stepI] at h
      | scope c => simp [stepI] at h
      | goto l => simp [stepI] at h
      | ret => simp [stepI] at h
      | refuse s => simp [stepI] at h
    | ops all l =>
      cases l with
      | nil => simp only [stepI, Option.some.injEq] at h; subst h; exact g
      | cons o l => simp [stepI] at h
    | blk id => simp only [stepI, Option.some.injEq] at h; subst h; exact g
    | fin p => simp [stepI] at h

/-- A test whose outcome is known. -/
theorem G.ift {C : Ctx p fn rd post} {K : List It} {L : Env} {H : List HProp} {c : Operand} {x y : Code} (h : evalO L c = some (.bool true)) (g : G C (.code x :: K) L H) :
    G C (.code (.cond c x y) :: K) L H := fun a w F ha hs hf => wp_cond_true (ha.eval h) (g a w F ha hs hf)
theorem G.iff {C : Ctx p fn rd post} {K : List It} {L : Env} {H : List HProp} {c : Operand} {x y : Code} (h : evalO L c = some (.bool false)) (g : G C (.code y :: K) L H) :
    G C (.code (.cond c x y) :: K) L H := fun a w F ha hs hf => wp_cond_false (ha.eval h) (g a w F ha hs hf)
/-- A test: both ways. -/
theorem G.ifb {C : Ctx p fn rd post} {K : List It} {L : Env} {H : List HProp} {c : Operand} {x y : Code} {b : Bool} (h : evalO L c = some (.bool b))
    (g1 : b = true → G C (.code x :: K) L H) (g2 : b = false → G C (.code y :: K) L H) : G C (.code (.cond c x y) :: K) L H := by
  cases b with
  | true => exact G.ift h (g1 rfl)
  | false => exact G.iff h (g2 rfl)
theorem G.ifd {C : Ctx p fn rd post} {K : List It} {L : Env} {H : List HProp} {c : Operand} {x y : Code} {p : Prop} [Decidable p] (h : evalO L c = some (.bool (decide p)))
    (g1 : p → G C (.code x :: K) L H) (g2 : ¬ p → G C (.code y :: K) L H) : G C (.code (.cond c x y) :: K) L H :=
  G.ifb h (fun hb => g1 (of_decide_eq_true hb)) (fun hb => g2 (of_decide_eq_false hb))

/-- Fewer slots, other spellings, less memory. -/
theorem G.weak {C : Ctx p fn rd post} {K : List It} {L L' : Env} {H H' : List HProp} (hL : Sub L' L) (hH : Ent H H') (g : G C K L' H') : G C K L H :=
  fun a w F ha hs hf => g a w F (ha.sub hL) (hH w F hs) hf
theorem G.wkL {C : Ctx p fn rd post} {K : List It} {L : Env} {H : List HProp} (L' : Env) (hL : Sub L' L) (g : G C K L' H) : G C K L H := g.weak hL (Ent.refl H)
theorem G.wkH {C : Ctx p fn rd post} {K : List It} {L : Env} {H : List HProp} (H' : List HProp) (hH : Ent H H') (g : G C K L H') : G C K L H :=
  fun a w F ha hs hf => g a w F ha (hH w F hs) hf

/-- A place where ways meet: a family of slots and memory. -/
def JP (C : Ctx p fn rd post) {σ : Type} (Lf : σ → Env) (Hf : σ → List HProp) (I : σ → Prop) : Act → World → Prop :=
  fun a w => ∃ s F, I s ∧ Agr fn.ntmps (Lf s) a ∧ Sat (Hf s) w F ∧ Fr C.w0 C.F0 w F

theorem G.fin {C : Ctx p fn rd post} {K : List It} {L : Env} {H : List HProp} {σ : Type} {Lf : σ → Env} {Hf : σ → List HProp} {I : σ → Prop} (s : σ) (hI : I s) (hL : Sub (Lf s) L)
    (hH : Ent H (Hf s)) : G C (.fin (JP C Lf Hf I) :: K) L H :=
  fun _ w F ha hs hf => ⟨s, F, hI, ha.sub hL, hH w F hs, hf⟩

theorem G.cut {C : Ctx p fn rd post} {x : It} {K : List It} {L : Env} {H : List HProp} {σ : Type} (Lf : σ → Env) (Hf : σ → List HProp) (I : σ → Prop)
    (h1 : G C (x :: .fin (JP C Lf Hf I) :: K) L H) (h2 : ∀ s, I s → G C K (Lf s) (Hf s)) : G C (x :: K) L H := by
  have hq : ∀ e a w, sem C (.fin (JP C Lf Hf I) :: K) e a w → sem C K e a w := by
    intro e a w h
    cases e with
    | normal => obtain ⟨s, F, hI, ha, hs, hf⟩ := h; exact h2 s hI a w F ha hs hf
    | _ => exact h
  intro a w F ha hs hf
  have h1 := h1 a w F ha hs hf
  cases x with
  | code c => exact wp_mono (c := c) h1 hq
  | ops all l =>
    have mono : ∀ (l : List Oper) a w, wpList p.P all (sem C (.fin (JP C Lf Hf I) :: K)) l a w → wpList p.P all (sem C K) l a w := by
      intro l
      induction l with
      | nil => intro a w h; exact hq _ _ _ h
      | cons o l ih =>
        intro a w h
        unfold wpList at h ⊢
        split
        · rename_i hw
          rw [if_pos hw] at h
          rcases h with h | ⟨h, a', w', h'⟩
          · refine .inl ?_
            unfold Oper.wp at h ⊢
            revert h
            generalize (execOp a.eval o).run p.P w = r
            intro h
            unfold Oper.upon at h ⊢
            split <;> simp only at h
            · exact ih _ _ h
            · exact ih _ _ h
            · exact ih _ _ h
            · refine Calls.mono h fun e w' h => ?_
              cases e with
              | returned v => exact ih _ _ h
              | panicked c => exact hq _ _ _ h
              | outgrown => obtain ⟨a', w', h'⟩ := h; exact ⟨a', w', hq _ _ _ h'⟩
            · exact Rows.mono h fun v w' h => ih _ _ h
            · exact hq _ _ _ h
          · exact .inr ⟨h, a', w', hq _ _ _ h'⟩
        · rename_i hw
          rw [if_neg hw] at h
          exact ih _ _ h
    exact mono l a w h1
  | blk id => exact hq _ _ _ h1
  | fin p => exact h1

/-- A loop: a family of states at its head. -/
theorem G.loop {C : Ctx p fn rd post} {c : Code} {K : List It} {L : Env} {H : List HProp} {σ : Type} (Lf : σ → Env) (Hf : σ → List HProp) (I : σ → Prop) (μ : σ → Nat) (s0 : σ) (hI : I s0)
    (hL : Sub (Lf s0) L) (hH : Ent H (Hf s0))
    (round : ∀ s, I s → G C (.code c :: .fin (JP C Lf Hf fun s' => I s' ∧ μ s' < μ s) :: K) (Lf s) (Hf s)) : G C (.code (.loop c) :: K) L H := by
  intro a w F ha hs hf
  have key : ∀ n s a w F, μ s = n → I s → Agr fn.ntmps (Lf s) a → Sat (Hf s) w F → Fr C.w0 C.F0 w F →
      ∀ (b : Frame) (k : List Item) (cs : List Frame), ∃ e a' w', sem C K e a' w' ∧ Arrives p.P (lone (b.at a (.code c :: .inLoop c :: k)) cs w) b k cs e a' w' := by
    intro n
    induction n using Nat.strongRecOn with
    | _ n ih =>
      intro s a w F hn hI ha hs hf b k cs
      obtain ⟨e, a₁, w₁, hq, harr⟩ := round s hI a w F ha hs hf b (.inLoop c :: k) cs
      cases e with
      | normal =>
        obtain ⟨s', F', ⟨hI', hlt⟩, ha', hs', hf'⟩ := hq
        obtain ⟨e₂, a₂, w₂, hq₂, harr₂⟩ := ih (μ s') (hn ▸ hlt) s' a₁ w₁ F' rfl hI' ha' hs' hf' b k cs
        exact ⟨e₂, a₂, w₂, hq₂, .of_steps (Steps.trans harr (.one step_inLoop)) harr₂⟩
      | exit id => exact ⟨_, a₁, w₁, hq, .pass (x := .inLoop c) rfl (fun _ _ => .inl (by simp)) harr⟩
      | goto l => exact ⟨_, a₁, w₁, hq, .pass (x := .inLoop c) rfl (fun _ _ => .inl (by simp)) harr⟩
      | ret => exact ⟨_, a₁, w₁, hq, .pass (x := .inLoop c) rfl (fun _ _ => .inl (by simp)) harr⟩
      | panic ch => exact ⟨_, a₁, w₁, hq, .pass (x := .inLoop c) rfl (fun _ _ => .inl (by simp)) harr⟩
      | outgrown => exact ⟨_, a₁, w₁, hq, .pass (x := .inLoop c) rfl (fun _ _ => .inl (by simp)) harr⟩
  intro b k cs
  obtain ⟨e, a', w', hq, harr⟩ := key _ s0 a w F rfl hI (ha.sub hL) (hH w F hs) hf b k cs
  exact ⟨e, a', w', hq, .of_steps (.one step_loop) harr⟩

/-! ### The end of a body; the beginning -/
def resO (L : Env) : List ResultVar → Option (List Value)
  | [] => some []
  | .tmp t :: rs => match look L t with | some v => (match resO L rs with | some r => some (v :: r) | none => none) | none => none
  | .cell .. :: _ => none
def resV : List Value → Value
  | [v] => v
  | vs => .tuple vs.toArray

theorem run_bind_ok {α β : Type} {P : Program} {x : Sem α} {f : α → Sem β} {w w' : World} {a : α} (h : x.run P w = .ok a w') : (x >>= f).run P w = (f a).run P w' := by
  rw [Sem.run_bind, h]; rfl

theorem mapM_run {α : Type} {P : Program} {w : World} {f : α → Sem Value} : ∀ {rs : List α} {vs : List Value}, rs.length = vs.length → (∀ (i : Nat) r v, rs[i]? = some r → vs[i]? = some v → (f r).run P w = .ok v w) →
    (rs.mapM f).run P w = .ok vs w
  | [], [], _, _ => rfl
  | r :: rs, v :: vs, hl, h => by
    rw [List.mapM_cons, run_bind_ok (h 0 r v rfl rfl), run_bind_ok (mapM_run (rs := rs) (vs := vs) (by simpa using hl) fun i r' v' hr hv => h (i + 1) r' v' hr hv)]
    rfl
  | [], _ :: _, hl, _ => by simp at hl
  | _ :: _, [], hl, _ => by simp at hl

def resSem (tmps : Array Value) : ResultVar → Sem Value
  | .tmp t => pure (tmps.getD t undef)
  | .cell a t => do loadVar t (← asAddr (tmps.getD a undef))
theorem results_eq (fn : Func) (tmps : Array Value) : results fn tmps = (do
    let vs ← fn.results.mapM (resSem tmps)
    pure (if h : vs.size = 1 then vs[0] else .tuple vs)) := rfl

theorem resO_length {L : Env} : ∀ {rs : List ResultVar} {vs : List Value}, resO L rs = some vs → rs.length = vs.length
  | [], vs, h => by simp only [resO, Option.some.injEq] at h; subst h; rfl
  | .cell .. :: _, vs, h => by simp [resO] at h
  | .tmp t :: rs, vs, h => by
    simp only [resO] at h
    cases hl : look L t with
    | none => simp [hl] at h
    | some v =>
      cases hr : resO L rs with
      | none => simp [hl, hr] at h
      | some us => simp [hl, hr] at h; subst h; simpa using resO_length hr

theorem resO_at {L : Env} : ∀ {rs : List ResultVar} {vs : List Value}, resO L rs = some vs → ∀ (i : Nat) r v, rs[i]? = some r → vs[i]? = some v → ∃ t, r = .tmp t ∧ look L t = some v
  | [], vs, h, i, r, v, hr, _ => by simp at hr
  | .cell .. :: rs, vs, h, _, _, _, _, _ => by simp [resO] at h
  | .tmp t :: rs, vs, h, i, r, v, hr, hv => by
    simp only [resO] at h
    cases hl : look L t with
    | none => simp [hl] at h
    | some u =>
      cases hr' : resO L rs with
      | none => simp [hl, hr'] at h
      | some us =>
        simp [hl, hr'] at h
        subst h
        cases i with
        | zero => simp at hr hv; subst hr; subst hv; exact ⟨t, rfl, hl⟩
        | succ i => exact resO_at hr' i r v (by simpa using hr) (by simpa using hv)

theorem results_run' {P : Program} {fn : Func} {a : Act} {w : World} {rs : List ResultVar} {vs : List Value} (hr : fn.results = rs.toArray) (hlen : rs.length = vs.length)
    (h : ∀ (i : Nat) r v, rs[i]? = some r → vs[i]? = some v → (resSem a.tmps r).run P w = .ok v w) :
    (results fn a.tmps).run P w = .ok (resV vs) w := by
  rw [results_eq, hr, List.mapM_toArray, Sem.run_bind, Sem.run_map, mapM_run hlen h]
  match vs with
  | [] => rfl
  | [v] => rfl
  | v :: u :: vs => simp [resV]

theorem results_run {P : Program} {fn : Func} {n : Nat} {L : Env} {a : Act} {w : World} (ha : Agr n L a) {rs : List ResultVar} {vs : List Value} (hr : fn.results = rs.toArray) (hv : resO L rs = some vs) :
    (results fn a.tmps).run P w = .ok (resV vs) w := by
  refine results_run' hr (resO_length hv) fun i r v h1 h2 => ?_
  obtain ⟨t, rfl, hl⟩ := resO_at hv i r v h1 h2
  simp [resSem, Array.getD_eq_getD_getElem?, ha.cell t v hl]

theorem G.ret {C : Ctx p fn rd post} {K : List It} {L : Env} {H : List HProp} {rs : List ResultVar} {vs : List Value} (hr : fn.results = rs.toArray) (hv : resO L rs = some vs)
    (H' : List HProp) (hp : post (resV vs) H') (hH : Ent H H') : G C (.code .ret :: K) L H := by
  intro a w F ha hs hf
  have hb : bodyPost p.P fn (Res C.w0 C.F0 post) .ret a w := ⟨ha.defers, _, results_run ha hr hv, _, H', F, rfl, hp, hH w F hs, hf⟩
  have : ∀ K, sem C K .ret a w := by
    intro K
    induction K with
    | nil => exact hb
    | cons x K ih => cases x <;> exact ih
  exact wp_ret (this K)
theorem G.done {C : Ctx p fn rd post} {L : Env} {H : List HProp} {rs : List ResultVar} {vs : List Value} (hr : fn.results = rs.toArray) (hv : resO L rs = some vs)
    (H' : List HProp) (hp : post (resV vs) H') (hH : Ent H H') : G C [] L H := by
  intro a w F ha hs hf
  exact ⟨ha.defers, _, results_run ha hr hv, _, H', F, rfl, hp, hH w F hs, hf⟩

def envOf : Nat → List Value → Env
  | _, [] => []
  | k, v :: vs => (k, v) :: envOf (k + 1) vs

theorem look_envOf : ∀ (vs : List Value) (k t : Nat) (v : Value), look (envOf k vs) t = some v → k ≤ t ∧ vs[t - k]? = some v
  | [], k, t, v, h => by simp [envOf, look] at h
  | u :: vs, k, t, v, h => by
    simp only [envOf, look] at h
    cases hb : Nat.beq t k with
    | true =>
      rw [hb] at h; simp at h; subst h
      have := beq_true hb; subst this
      simp
    | false =>
      rw [hb] at h; simp at h
      obtain ⟨h1, h2⟩ := look_envOf vs (k + 1) t v h
      refine ⟨by omega, ?_⟩
      have : t - k = (t - (k + 1)) + 1 := by omega
      rw [this]; simpa using h2

end

def envF : Nat → List Value → Option Env
  | _, [] => some []
  | k, v :: vs => match envF (k + 1) vs with | some r => some ((k, v) :: r) | none => none
theorem envF_eq : ∀ {vs : List Value} {k : Nat} {L : Env}, envF k vs = some L → L = envOf k vs
  | [], k, L, h => by simp only [envF, Option.some.injEq] at h; exact h.symm
  | v :: vs, k, L, h => by
    simp only [envF] at h
    cases hr : envF (k + 1) vs with
    | none => simp [hr] at h
    | some q => simp [hr] at h; rw [← h, envF_eq hr]; rfl

/-- The beginning of a walk. -/
theorem Fun.enter {p : Pg} {f : FuncId} {fn : Func} {c : Code} {args : List Value} {rd H : List HProp} {post : Post} (hcall : Callable p.P f) (hf : p.P.funcs[f]? = some fn) (hb : fn.body = some c)
    (hn : args.length ≤ fn.ntmps) (g : ∀ C : Ctx p fn rd post, G C [.code c] (envOf 0 args) H) : Fun p.P f args rd H post := by
  refine ⟨hcall, fun w F hr hs hi => calls_of_wp hf hb ?_⟩
  refine g ⟨w, F, hr⟩ _ w F ⟨?_, rfl, ?_⟩ hs (Fr.refl hi)
  · simp; omega
  · intro t v ht
    obtain ⟨_, h⟩ := look_envOf args 0 t v ht
    have h : args[t]? = some v := by simpa using h
    have hlt : t < args.length := by
      rcases Nat.lt_or_ge t args.length with h' | h'
      · exact h'
      · simp [List.getElem?_eq_none h'] at h
    rw [Array.getElem?_append_left (by simpa using hlt)]
    simpa using h

end Go.W

/- The operations that only reckon: their values by evaluation. -/
namespace Go.W

section
variable {P : Program} {w : World}
theorem run_underlying {t : TypeId} {d : TypeDesc} (h : P.underlying t = some d) : (underlying t).run P w = .ok d w := by
  simp [underlying, h]
theorem run_typeInfo {t : TypeId} {i : TypeInfo} (h : P.info? t = some i) : (typeInfo t).run P w = .ok i w := by
  simp [typeInfo, h]
theorem run_sizeOf {t : TypeId} {i : TI} (h : TIok P t i) : (sizeOf t).run P w = .ok i.size w := by
  obtain ⟨j, h1, h2, _⟩ := h.info
  simp [sizeOf, run_typeInfo h1, h2]
theorem run_zeroValue {t : TypeId} {i : TI} (h : TIok P t i) : ∃ z, (zeroValue t).run P w = .ok z w ∧ z.cells = i.zero.toArray := by
  obtain ⟨j, h1, _, _, z, h4, h5⟩ := h.info
  exact ⟨z, by simp [zeroValue, run_typeInfo h1, h4], h5⟩
def TI.agg (i : TI) : Bool := match i.k with | .str _ | .arr _ _ => true | _ => false
theorem run_isAgg {t : TypeId} {i : TI} (h : TIok P t i) : (isAgg t).run P w = .ok i.agg w := by
  have hd := h.desc
  unfold TI.agg
  split at hd <;> rename_i hk <;> simp only [hk]
  case h_7 => obtain ⟨l, hl, _⟩ := hd; simp [isAgg, run_underlying hl]
  case h_8 => obtain ⟨l, hl⟩ := hd; simp [isAgg, run_underlying hl]
  case h_9 => obtain ⟨d, hl, hd⟩ := hd; cases d <;> simp_all [isAgg, run_underlying hl]
  all_goals simp [isAgg, run_underlying hd]
end

def ikeq (a b : IntKind) : Bool := Nat.beq a.ctorIdx b.ctorIdx
theorem ikeq_eq {a b : IntKind} (h : ikeq a b = true) : a = b := by
  cases a <;> cases b <;> first | rfl | (exact absurd h (by decide))

/-- An operation on two whole numbers. -/
def binI (op : BinOp) (k : IntKind) (a b : Int) : Option Value :=
  match op with
  | .add => some (.int k (k.wrap (a + b)))
  | .sub => some (.int k (k.wrap (a - b)))
  | .mul => some (.int k (k.wrap (a * b)))
  | .and => some (.int k (k.wrap (BitVec.ofInt k.bits a &&& BitVec.ofInt k.bits b).toNat))
  | .or => some (.int k (k.wrap (BitVec.ofInt k.bits a ||| BitVec.ofInt k.bits b).toNat))
  | .xor => some (.int k (k.wrap (BitVec.ofInt k.bits a ^^^ BitVec.ofInt k.bits b).toNat))
  | .andNot => some (.int k (k.wrap (BitVec.ofInt k.bits a &&& ~~~ BitVec.ofInt k.bits b).toNat))
  | .eql => some (.bool (decide (a = b)))
  | .neq => some (.bool (decide (a ≠ b)))
  | .lss => some (.bool (decide (a < b)))
  | .leq => some (.bool (decide (a ≤ b)))
  | .gtr => some (.bool (decide (b < a)))
  | .geq => some (.bool (decide (b ≤ a)))
  | .quo => match b with | .ofNat (m + 1) => some (.int k (k.wrap (a.tdiv (.ofNat (m + 1))))) | _ => none
  | .rem => match b with | .ofNat (m + 1) => some (.int k (a.tmod (.ofNat (m + 1)))) | _ => none
  | _ => none

/-- A shift by a number that is written out. -/
def shV (op : BinOp) (k : IntKind) (a b : Int) : Option Value :=
  match b with
  | .ofNat m => match op with
    | .shl => some (.int k (k.wrap (a * 2 ^ (min m k.bits))))
    | .shr => some (.int k (a.fdiv (2 ^ (min m k.bits))))
    | _ => none
  | _ => none

def isC : Operand → Bool
  | .const _ => true
  | _ => false

/-- '==' where the answer stands in the values' shape. -/
def eqlV (ti : Option TI) (c : Bool) (x y : Value) : Option Bool :=
  match ti with
  | none => none
  | some i =>
    match i.k, x, y with
    | .bool, .bool a, .bool b => some (a == b)
    | .ptr _, .pointer none, .pointer none => some true
    | .ptr _, .pointer none, .pointer (some _) => some false
    | .ptr _, .pointer (some _), .pointer none => some false
    | .iface, .nilIface, .nilIface => bif c then some true else none
    | .iface, .nilIface, .iface _ _ => some false
    | .iface, .iface _ _, .nilIface => some false
    | _, _, _ => none

def binV (ti : Option TI) (op : BinOp) (c : Bool) (x y : Value) : Option Value :=
  match x, y with
  | .int k a, .int k' b =>
    match op with
    | .shl => shV .shl k a b
    | .shr => shV .shr k a b
    | _ => bif ikeq k k' then binI op k a b else none
  | x, y =>
    match op with
    | .eql => (eqlV ti c x y).map .bool
    | .neq => (eqlV ti c x y).map fun b => .bool (!b)
    | _ => none

theorem binI_run {P : Program} {w : World} {op : BinOp} {t : TypeId} {k : IntKind} {a b : Int} {v : Value} (h : binI op k a b = some v) (h1 : op ≠ .shl) (h2 : op ≠ .shr) :
    (binOp op t (.int k a) (.int k b)).run P w = .ok v w := by
  cases op <;> simp only [binI, Option.some.injEq, reduceCtorEq] at h <;> try contradiction
  case quo =>
    split at h
    · rename_i m
      simp only [Option.some.injEq] at h; subst h
      have : ¬ (Int.ofNat (m + 1) = 0) := by simp only [Int.ofNat_eq_natCast]; omega
      simp only [binOp, Op.intDiv, if_neg this, ne_eq, not_true_eq_false, if_false]; rfl
    · contradiction
  case rem =>
    split at h
    · rename_i m
      simp only [Option.some.injEq] at h; subst h
      have : ¬ (Int.ofNat (m + 1) = 0) := by simp only [Int.ofNat_eq_natCast]; omega
      simp only [binOp, Op.intDiv, if_neg this, ne_eq, not_true_eq_false, if_false]; rfl
    · contradiction
  all_goals
    subst h
    simp [binOp, Op.intArith, Op.intBits, Op.intCmp, -BitVec.toNat_and, -BitVec.toNat_or, -BitVec.toNat_xor]
  all_goals first | rfl | (rw [Bool.eq_iff_iff]; simp)

theorem shV_run {P : Program} {w : World} {op : BinOp} {t : TypeId} {k k' : IntKind} {a b : Int} {v : Value} (h : shV op k a b = some v) :
    (binOp op t (.int k a) (.int k' b)).run P w = .ok v w := by
  cases b with
  | negSucc m => simp [shV] at h
  | ofNat m =>
    cases op <;> simp only [shV, Option.some.injEq, reduceCtorEq] at h <;> try contradiction
    all_goals
      subst h
      have : ¬ (Int.ofNat m < 0) := by simp
      simp only [binOp, Op.shift, if_neg this]; rfl

theorem equalIn_run {P : Program} {w : World} {t : TypeId} {d : TypeDesc} {x y : Value} {b : Bool} (n : Nat) (hd : P.underlying t = some d)
    (h : (match d, x, y with
      | .bool, .bool a, .bool c => some (a == c)
      | .pointer _, .pointer none, .pointer c => some c.isNone
      | .pointer _, .pointer (some _), .pointer none => some false
      | .interface _, .nilIface, .nilIface => some true
      | .interface _, .nilIface, .iface _ _ => some false
      | .interface _, .iface _ _, .nilIface => some false
      | _, _, _ => none) = some b) : (Op.equalIn (n + 1) t x y).run P w = .ok b w := by
  simp only [Op.equalIn]
  rw [run_bind_ok (run_underlying hd)]
  split at h <;> simp only [Option.some.injEq, reduceCtorEq] at h <;> (try subst h) <;> rfl

theorem equal_run {P : Program} {w : World} {t : TypeId} {d : TypeDesc} {x y : Value} {b : Bool} (hd : P.underlying t = some d)
    (h : (match d, x, y with
      | .bool, .bool a, .bool c => some (a == c)
      | .pointer _, .pointer none, .pointer c => some c.isNone
      | .pointer _, .pointer (some _), .pointer none => some false
      | .interface _, .nilIface, .nilIface => some true
      | .interface _, .nilIface, .iface _ _ => some false
      | .interface _, .iface _ _, .nilIface => some false
      | _, _, _ => none) = some b) : (Op.equal t x y).run P w = .ok b w := equalIn_run 9999 hd h

theorem eqlV_run {P : Program} {w : World} {tt : TypeId → Option TI} (ok : ∀ t i, tt t = some i → TIok P t i) {t : TypeId} {x y : Operand} {vx vy : Value} {b : Bool}
    (h : eqlV (tt t) (isC x || isC y) vx vy = some b) :
    (do eqGuard .eql t x y vx vy; binOp .eql t vx vy : Sem Value).run P w = .ok (.bool b) w ∧
    (do eqGuard .neq t x y vx vy; binOp .neq t vx vy : Sem Value).run P w = .ok (.bool !b) w := by
  cases hi : tt t with
  | none => simp [hi, eqlV] at h
  | some i =>
    have hd := (ok t i hi).desc
    simp only [hi, eqlV] at h
    split at h <;> rename_i hk <;> try contradiction
    all_goals simp only [hk] at hd
    case h_5 =>
      obtain ⟨ms, hd⟩ := hd
      cases hc : (isC x || isC y) with
      | false => simp [hc] at h
      | true =>
        simp [hc] at h; subst h
        have he := equal_run (w := w) (x := .nilIface) (y := .nilIface) (b := true) hd rfl
        cases x <;> cases y <;> simp [isC] at hc <;> simp [eqGuard, binOp, he]
    case h_6 =>
      obtain ⟨ms, hd⟩ := hd; simp at h; subst h
      have he := fun u z => equal_run (w := w) (x := .nilIface) (y := .iface u z) (b := false) hd rfl
      simp [eqGuard, binOp, he]
    case h_7 =>
      obtain ⟨ms, hd⟩ := hd; simp at h; subst h
      have he := fun u z => equal_run (w := w) (x := .iface u z) (y := .nilIface) (b := false) hd rfl
      simp [eqGuard, binOp, he]
    case h_1 => simp at h; subst h; have he := fun a c => equal_run (w := w) (x := .bool a) (y := .bool c) (b := a == c) hd rfl; simp [eqGuard, binOp, he]
    case h_2 => simp at h; subst h; have he := equal_run (w := w) (x := .pointer none) (y := .pointer none) (b := true) hd rfl; simp [eqGuard, binOp, he]
    case h_3 => simp at h; subst h; have he := fun a => equal_run (w := w) (x := .pointer none) (y := .pointer (some a)) (b := false) hd rfl; simp [eqGuard, binOp, he]
    case h_4 => simp at h; subst h; have he := fun a => equal_run (w := w) (x := .pointer (some a)) (y := .pointer none) (b := false) hd rfl; simp [eqGuard, binOp, he]

theorem binV_run {P : Program} {w : World} {tt : TypeId → Option TI} (ok : ∀ t i, tt t = some i → TIok P t i) {t : TypeId} {x y : Operand} {vx vy : Value} {op : BinOp} {v : Value}
    (h : binV (tt t) op (isC x || isC y) vx vy = some v) : (do eqGuard op t x y vx vy; binOp op t vx vy : Sem Value).run P w = .ok v w := by
  have hg : ∀ k a k' b, (eqGuard op t x y (.int k a) (.int k' b)).run P w = .ok () w := by
    intro k a k' b
    simp [eqGuard]
  unfold binV at h
  split at h
  · rename_i k a k' b
    rw [run_bind_ok (hg k a k' b)]
    split at h
    · exact shV_run h
    · exact shV_run h
    · rename_i h1 h2
      cases hk : ikeq k k' with
      | false => simp [hk] at h
      | true =>
        simp [hk] at h
        rw [← ikeq_eq hk]
        exact binI_run h h1 h2
  · split at h
    · cases he : eqlV (tt t) (isC x || isC y) vx vy with
      | none => simp [he] at h
      | some b => simp [he] at h; subst h; exact (eqlV_run ok he).1
    · cases he : eqlV (tt t) (isC x || isC y) vx vy with
      | none => simp [he] at h
      | some b => simp [he] at h; subst h; exact (eqlV_run ok he).2
    · contradiction

def unV (op : UnOp) (x : Value) : Option Value :=
  match op, x with
  | .not, .bool b => some (.bool !b)
  | .neg, .int k n => some (.int k (k.wrap (0 - n)))
  | .xor, .int k n => some (.int k (k.wrap (BitVec.ofInt k.bits (if k.signed then -1 else k.max) ^^^ BitVec.ofInt k.bits n).toNat))
  | _, _ => none
theorem unV_run {P : Program} {w : World} {op : UnOp} {x v : Value} (h : unV op x = some v) : (Op.unary op x).run P w = .ok v w := by
  unfold unV at h
  split at h <;> simp only [Option.some.injEq, reduceCtorEq] at h
  all_goals (subst h; simp [Op.unary, Op.intArith, Op.intBits, -BitVec.toNat_xor])

/-! ### Lists, forced -/
def takeF : Nat → List Value → Option (List Value)
  | 0, _ => some []
  | _ + 1, [] => none
  | n + 1, v :: l => match takeF n l with | some r => some (v :: r) | none => none
def dropF : Nat → List Value → Option (List Value)
  | 0, l => some l
  | _ + 1, [] => none
  | n + 1, _ :: l => dropF n l
def setF : Nat → Value → List Value → Option (List Value)
  | _, _, [] => none
  | 0, v, _ :: l => some (v :: l)
  | n + 1, v, x :: l => match setF n v l with | some r => some (x :: r) | none => none
/-- 'vs' over the cells from 'n' on. -/
def putF : Nat → List Value → List Value → Option (List Value)
  | 0, [], l => some l
  | 0, _ :: _, [] => none
  | 0, v :: vs, _ :: l => match putF 0 vs l with | some r => some (v :: r) | none => none
  | _ + 1, _, [] => none
  | n + 1, vs, x :: l => match putF n vs l with | some r => some (x :: r) | none => none

theorem takeF_eq : ∀ {n : Nat} {l r : List Value}, takeF n l = some r → r = l.take n ∧ n ≤ l.length
  | 0, _, r, h => by simp [takeF] at h; simp [← h]
  | n + 1, [], r, h => by simp [takeF] at h
  | n + 1, v :: l, r, h => by
    simp only [takeF] at h
    cases hr : takeF n l with
    | none => simp [hr] at h
    | some s => simp [hr] at h; obtain ⟨rfl, h2⟩ := takeF_eq hr; exact ⟨by simp [← h], by simpa using h2⟩
theorem dropF_eq : ∀ {n : Nat} {l r : List Value}, dropF n l = some r → r = l.drop n ∧ n ≤ l.length
  | 0, _, r, h => by simp [dropF] at h; simp [← h]
  | n + 1, [], r, h => by simp [dropF] at h
  | n + 1, v :: l, r, h => by simp only [dropF] at h; obtain ⟨h1, h2⟩ := dropF_eq h; exact ⟨by simpa using h1, by simpa using h2⟩
theorem setF_eq : ∀ {n : Nat} {v : Value} {l r : List Value}, setF n v l = some r → r = l.set n v ∧ n < l.length
  | _, _, [], r, h => by simp [setF] at h
  | 0, v, x :: l, r, h => by simp [setF] at h; simp [← h]
  | n + 1, v, x :: l, r, h => by
    simp only [setF] at h
    cases hr : setF n v l with
    | none => simp [hr] at h
    | some s => simp [hr] at h; obtain ⟨rfl, h2⟩ := setF_eq hr; exact ⟨by simp [← h], by simpa using h2⟩
theorem putF_eq : ∀ {n : Nat} {vs l r : List Value}, putF n vs l = some r → r = l.take n ++ vs ++ l.drop (n + vs.length) ∧ n + vs.length ≤ l.length
  | 0, [], l, r, h => by simp [putF] at h; simp [← h]
  | 0, v :: vs, [], r, h => by simp [putF] at h
  | 0, v :: vs, x :: l, r, h => by
    simp only [putF] at h
    cases hr : putF 0 vs l with
    | none => simp [hr] at h
    | some s => simp [hr] at h; obtain ⟨rfl, h2⟩ := putF_eq hr; refine ⟨by simp [← h], by simp at h2 ⊢; omega⟩
  | n + 1, vs, [], r, h => by simp [putF] at h
  | n + 1, vs, x :: l, r, h => by
    simp only [putF] at h
    cases hr : putF n vs l with
    | none => simp [hr] at h
    | some s =>
      simp [hr] at h; obtain ⟨rfl, h2⟩ := putF_eq hr
      have e : n + 1 + vs.length = (n + vs.length) + 1 := by omega
      exact ⟨by simp [← h, e], by simp; omega⟩

/-- The same list, its first elements written out. -/
def forceN : Nat → List Value → Option (List Value)
  | 0, l => some l
  | _ + 1, [] => some []
  | n + 1, v :: l => match forceN n l with | some r => some (v :: r) | none => none
theorem forceN_eq : ∀ {n : Nat} {l r : List Value}, forceN n l = some r → r = l
  | 0, l, r, h => by simp [forceN] at h; exact h.symm
  | n + 1, [], r, h => by simp [forceN] at h; exact h
  | n + 1, v :: l, r, h => by
    simp only [forceN] at h
    cases hr : forceN n l with
    | none => simp [hr] at h
    | some q => simp [hr] at h; rw [← h, forceN_eq hr]

def cellsL : Value → List Value
  | .agg cs => cs.toList
  | v => [v]
theorem cellsL_eq (v : Value) : v.cells = (cellsL v).toArray := by cases v <;> simp [Value.cells, cellsL]

/-- The cells of an aggregate. -/
def aggL : Value → Option (List Value)
  | .agg ⟨l⟩ => some l
  | _ => none

/-- A part of an aggregate. -/
def partF (i : TI) (l : List Value) (off : Nat) : Option Value :=
  bif i.agg then (match dropF off l with | some d => (match takeF i.size d with | some c => some (.agg c.toArray) | none => none) | none => none) else l[off]?

theorem partF_run {P : Program} {w : World} {t : TypeId} {i : TI} (hi : TIok P t i) {l : List Value} {off : Nat} {v : Value} (h : partF i l off = some v) : (part t l.toArray off).run P w = .ok v w := by
  unfold partF at h
  cases ha : i.agg with
  | true =>
    simp only [ha, cond_true] at h
    cases hd : dropF off l with
    | none => simp [hd] at h
    | some d =>
      cases ht : takeF i.size d with
      | none => simp [hd, ht] at h
      | some c =>
        simp [hd, ht] at h
        subst h
        obtain ⟨rfl, _⟩ := dropF_eq hd
        obtain ⟨rfl, _⟩ := takeF_eq ht
        simp [part, run_isAgg hi, ha, run_sizeOf hi, List.extract_eq_take_drop]
  | false =>
    simp only [ha, cond_false] at h
    simp [part, run_isAgg hi, ha, h]

def evalOs (L : Env) : List Operand → Option (List Value)
  | [] => some []
  | x :: xs => match evalO L x with | some v => (match evalOs L xs with | some r => some (v :: r) | none => none) | none => none
theorem Agr.evals {n : Nat} {L : Env} {a : Act} (h : Agr n L a) : ∀ {xs : List Operand} {vs : List Value}, evalOs L xs = some vs → xs.map a.eval = vs
  | [], vs, hx => by simp [evalOs] at hx; simp [hx]
  | x :: xs, vs, hx => by
    simp only [evalOs] at hx
    cases h1 : evalO L x with
    | none => simp [h1] at hx
    | some v =>
      cases h2 : evalOs L xs with
      | none => simp [h1, h2] at hx
      | some us => simp [h1, h2] at hx; subst hx; simp [h.eval h1, h.evals h2]

def evalPs (L : Env) : List (Nat × Operand) → Option (List (Nat × Value))
  | [] => some []
  | (i, x) :: xs => match evalO L x with | some v => (match evalPs L xs with | some r => some ((i, v) :: r) | none => none) | none => none
theorem Agr.evalPs {n : Nat} {L : Env} {a : Act} (h : Agr n L a) : ∀ {xs : List (Nat × Operand)} {vs : List (Nat × Value)}, W.evalPs L xs = some vs → xs.map (fun (i, x) => (i, a.eval x)) = vs
  | [], vs, hx => by simp [W.evalPs] at hx; simp [hx]
  | (i, x) :: xs, vs, hx => by
    simp only [W.evalPs] at hx
    cases h1 : evalO L x with
    | none => simp [h1] at hx
    | some v =>
      cases h2 : W.evalPs L xs with
      | none => simp [h1, h2] at hx
      | some us => simp [h1, h2] at hx; subst hx; simp [h.eval h1, h.evalPs h2]

/-- 'fill', forced. -/
def fillF (place : Nat → Option (Nat × Nat)) : List Value → List (Nat × Value) → Option (List Value)
  | cells, [] => some cells
  | cells, (i, v) :: rest =>
    match place i with
    | none => none
    | some (off, size) =>
      bif Nat.beq (cellsL v).length size then (match putF off (cellsL v) cells with | some c => fillF place c rest | none => none) else none

theorem foldl_putL : ∀ (vs : List Value) (k : Nat) (l : List Value) (off : Nat), off + k + vs.length ≤ l.length →
    (vs.zipIdx k).foldl (fun cs (x : Value × Nat) => cs.set (off + x.2) x.1) l = l.take (off + k) ++ vs ++ l.drop (off + k + vs.length)
  | [], k, l, off, _ => by simp
  | v :: vs, k, l, off, h => by
    simp only [List.length_cons] at h
    simp only [List.zipIdx_cons, List.foldl_cons]
    rw [foldl_putL vs (k + 1) _ off (by simp; omega)]
    have hm : off + k < l.length := by omega
    have ha : (l.take (off + k)).length = off + k := by simp; omega
    rw [List.set_eq_take_append_cons_drop, if_pos hm]
    have e1 : off + (k + 1) = (l.take (off + k)).length + 1 := by rw [ha]; omega
    have e2 : off + (k + 1) + vs.length = (l.take (off + k)).length + (1 + vs.length) := by rw [ha]; omega
    rw [e2, List.drop_append, e1, List.take_append]
    simp only [Nat.add_sub_cancel_left, List.take_succ_cons, List.take_zero]
    rw [List.take_of_length_le (by omega), List.drop_eq_nil_of_le (by omega), Nat.add_comm 1 vs.length, List.drop_succ_cons, List.drop_drop]
    simp only [List.append_assoc, List.cons_append, List.nil_append, List.length_cons]
    congr 4
    omega
theorem foldl_put (vs : List Value) (l : List Value) (off : Nat) (h : off + vs.length ≤ l.length) :
    (vs.zipIdx 0).foldl (fun (cs : Array Value) (x : Value × Nat) => cs.setIfInBounds (off + x.2) x.1) l.toArray = (l.take off ++ vs ++ l.drop (off + vs.length)).toArray := by
  have key : ∀ (xs : List (Value × Nat)) (l : List Value), xs.foldl (fun (cs : Array Value) (x : Value × Nat) => cs.setIfInBounds (off + x.2) x.1) l.toArray = (xs.foldl (fun cs x => cs.set (off + x.2) x.1) l).toArray := by
    intro xs
    induction xs with
    | nil => intro l; rfl
    | cons x xs ih => intro l; simp only [List.foldl_cons]; rw [List.setIfInBounds_toArray, ih]
  rw [key, foldl_putL vs 0 l off (by simpa using h)]
  simp

theorem fillF_eq {place : Nat → Option (Nat × Nat)} : ∀ {ps : List (Nat × Value)} {cells r : List Value}, fillF place cells ps = some r → Instr.fill place cells.toArray ps = some r.toArray
  | [], cells, r, h => by simp [fillF] at h; simp [Instr.fill, h]
  | (i, v) :: rest, cells, r, h => by
    simp only [fillF] at h
    simp only [Instr.fill]
    cases hp : place i with
    | none => simp [hp] at h
    | some q =>
      obtain ⟨off, size⟩ := q
      simp only [hp] at h
      cases hb : Nat.beq (cellsL v).length size with
      | false => simp [hb] at h
      | true =>
        simp only [hb, cond_true] at h
        have hs := beq_true hb
        cases hq : putF off (cellsL v) cells with
        | none => simp [hq] at h
        | some c =>
          simp only [hq] at h
          obtain ⟨hc, hl⟩ := putF_eq hq
          have := fillF_eq h
          simp only [cellsL_eq]
          rw [if_neg (by simp [hs]; omega)]
          rw [show (cellsL v).toArray.zipIdx = ((cellsL v).zipIdx 0).toArray by simp]
          have e := foldl_put (cellsL v) cells off hl
          rw [← hc] at e
          simp only [List.size_toArray, List.foldl_toArray']
          rw [e]; exact this

def placesOf (tt : TypeId → Option TI) : List (Nat × TypeId) → Option (List (Nat × Nat))
  | [] => some []
  | (o, t) :: fs => match tt t with | some i => (match placesOf tt fs with | some r => some ((o, i.size) :: r) | none => none) | none => none

/-- A struct or an array out of its parts. -/
def buildF (tt : TypeId → Option TI) (t : TypeId) (ps : List (Nat × Value)) : Option (List Value) :=
  (tt t).bind fun i =>
    match i.k with
    | .str fs => (placesOf tt fs).bind fun pl => (fillF (pl[·]?) i.zero ps).bind (forceN 100)
    | .arr _ e => (tt e).bind fun j => (fillF (fun n => some (n * j.size, j.size)) i.zero ps).bind (forceN 100)
    | _ => none

theorem placesOf_run {P : Program} {w : World} {tt : TypeId → Option TI} (ok : ∀ t i, tt t = some i → TIok P t i) : ∀ {l : List Field} {pl : List (Nat × Nat)},
    placesOf tt (l.map fun f => (f.offset, f.type)) = some pl → (l.mapM fun f => do pure (f.offset, ← sizeOf f.type) : Sem (List (Nat × Nat))).run P w = .ok pl w
  | [], pl, h => by simp [placesOf] at h; subst h; rfl
  | f :: l, pl, h => by
    simp only [List.map_cons, placesOf] at h
    cases hi : tt f.type with
    | none => simp [hi] at h
    | some i =>
      cases hr : placesOf tt (l.map fun f => (f.offset, f.type)) with
      | none => simp [hi, hr] at h
      | some q =>
        simp [hi, hr] at h
        subst h
        rw [List.mapM_cons, run_bind_ok (a := (f.offset, i.size)) (w' := w) (by simp [run_sizeOf (ok _ _ hi)]), run_bind_ok (placesOf_run ok hr)]
        rfl

theorem buildF_run {P : Program} {w : World} {tt : TypeId → Option TI} (ok : ∀ t i, tt t = some i → TIok P t i) {t : TypeId} {ps : List (Nat × Value)} {r : List Value} (h : buildF tt t ps = some r) :
    (Instr.build t ps.toArray).run P w = .ok (.agg r.toArray) w := by
  unfold buildF at h
  cases hi : tt t with
  | none => simp [hi] at h
  | some i =>
    simp only [hi, Option.bind_some] at h
    have hok := ok t i hi
    obtain ⟨z, hz, hzc⟩ := run_zeroValue (w := w) hok
    have hd := hok.desc
    split at h
    · rename_i fs hk
      rw [hk] at hd
      obtain ⟨l, hl, hf⟩ := hd
      subst hf
      cases hp : placesOf tt (l.map fun f => (f.offset, f.type)) with
      | none => simp [hp] at h
      | some pl =>
        simp only [hp, Option.bind_some] at h
        obtain ⟨r', hr', hforce⟩ := Option.bind_eq_some_iff.1 h
        obtain rfl := forceN_eq hforce
        have hfill := fillF_eq hr'
        unfold Instr.build
        rw [run_bind_ok hz, run_bind_ok (run_underlying hl)]
        simp only [List.mapM_toArray]
        rw [Sem.run_bind, Sem.run_map, placesOf_run ok hp]
        simp only [Result.andThen_ok]
        simp [hzc, hfill]
    · rename_i n e hk
      rw [hk] at hd
      cases hj : tt e with
      | none => simp [hj] at h
      | some j =>
        simp only [hj, Option.bind_some] at h
        obtain ⟨r', hr', hforce⟩ := Option.bind_eq_some_iff.1 h
        obtain rfl := forceN_eq hforce
        have hfill := fillF_eq hr'
        unfold Instr.build
        rw [run_bind_ok hz, run_bind_ok (run_underlying hd)]
        simp only []
        rw [run_bind_ok (run_sizeOf (ok e j hj))]
        simp [hzc, hfill]
    · contradiction

end Go.W

/- The steps of a walk, operation by operation. -/
namespace Go.W

theorem evalO_map {L : Env} {a : Act} {n : Nat} (ha : Agr n L a) {vs : List Value} {xs : Array Operand} (h : evalOs L xs.toList = some vs) : xs.map a.eval = vs.toArray := by
  have := ha.evals h
  apply Array.toList_inj.1
  simpa using this

/-- The value of an operation that only reckons. -/
def opVal (tt : TypeId → Option TI) (L : Env) (o : Op) : Option Value :=
  match o with
  | .move x => evalO L x
  | .assign x => evalO L x
  | .pick c a b => match evalO L c with
    | some (.bool true) => evalO L a
    | some (.bool false) => evalO L b
    | _ => none
  | .binOp op t x y _ => (evalO L x).bind fun a => (evalO L y).bind fun b => binV (tt t) op (isC x || isC y) a b
  | .unOp op _ x => (evalO L x).bind fun a => unV op a
  | .convert s d x => (evalO L x).bind fun a => (tt s).bind fun _ => (tt d).bind fun i =>
    match i.k, a with
    | .int k, .int _ n => some (.int k (k.wrap n))
    | .string, .string s => some (.string s)
    | _, _ => none
  | .makeInterface t x => (evalO L x).bind fun a => (tt t).bind fun i => match i.k with | .iface => none | _ => some (.iface t a)
  | .makeFunc fn xs ys => (evalOs L xs.toList).bind fun vs => (evalOs L ys.toList).map fun us => .func fn vs.toArray us.toArray
  | .extract x i => (evalO L x).bind fun a => match a with
    | .tuple ⟨vs⟩ => vs[i]?
    | _ => none
  | .field t x f => (evalO L x).bind fun a => (aggL a).bind fun l => (tt t).bind fun i => match i.k with
    | .str fs => match fs[f]? with
      | some (off, u) => (tt u).bind fun j => partF j l off
      | none => none
    | _ => none
  | .nilCheck x => (evalO L x).bind fun a => match a with
    | .pointer (some p) => some (.pointer (some p))
    | _ => none
  | .fieldAddr t x f => (evalO L x).bind fun a => (tt t).bind fun i => match i.k, a with
    | .str fs, .pointer (some ⟨b, off, none⟩) => match fs[f]? with
      | some (o, u) => (tt u).bind fun j => match j.size with
        | 0 => none
        | _ + 1 => some (.pointer (some ⟨b, off + o, none⟩))
      | none => none
    | _, _ => none
  | .build t ps => (evalPs L ps.toList).bind fun vs => (buildF tt t vs).map fun l => .agg l.toArray
  | _ => none

theorem Addr.add_none (b off n : Nat) : (⟨b, off, none⟩ : Addr).add n = ⟨b, off + n, none⟩ := by
  unfold Addr.add; split
  · rename_i h; subst h; rfl
  · rfl

theorem fieldPlace_run {P : Program} {w : World} {f : Field} {i : TI} {b off : Nat} (hi : TIok P f.type i) (hs : i.size ≠ 0) :
    (fieldPlace ⟨b, off, none⟩ f).run P w = .ok ⟨b, off + f.offset, none⟩ w := by
  unfold fieldPlace
  rw [run_bind_ok (run_sizeOf hi), if_neg hs, Addr.add_none]
  rfl

theorem opVal_run {P : Program} {w : World} {tt : TypeId → Option TI} (ok : ∀ t i, tt t = some i → TIok P t i) {L : Env} {a : Act} {n : Nat} (ha : Agr n L a) {o : Oper} {v : Value}
    (h : opVal tt L o.op = some v) : (execOp a.eval o).run P w = .ok (.value v) w := by
  obtain ⟨dst, op, ty, pos, after, guard⟩ := o
  cases op <;> simp only [opVal, reduceCtorEq] at h <;> try contradiction
  case move x => simp [execOp, ha.eval h]
  case assign x => simp [execOp, ha.eval h]
  case pick c x y =>
    split at h
    · rename_i hc
      simp [execOp, ha.eval hc, asBool, ha.eval h]
    · rename_i hc
      simp [execOp, ha.eval hc, asBool, ha.eval h]
    · contradiction
  case binOp op t x y t' =>
    cases hx : evalO L x with
    | none => simp [hx] at h
    | some vx =>
      cases hy : evalO L y with
      | none => simp [hx, hy] at h
      | some vy =>
        simp only [hx, hy, Option.bind_some] at h
        have := binV_run (w := w) ok h
        simp only [execOp, ha.eval hx, ha.eval hy]
        rw [run_bind_ok this]; rfl
  case unOp op t x =>
    cases hx : evalO L x with
    | none => simp [hx] at h
    | some vx =>
      simp only [hx, Option.bind_some] at h
      simp only [execOp, ha.eval hx]
      rw [run_bind_ok (unV_run h)]; rfl
  case convert s d x =>
    cases hx : evalO L x with
    | none => simp [hx] at h
    | some vx =>
      cases hs : tt s with
      | none => simp [hx, hs] at h
      | some i =>
        cases hd : tt d with
        | none => simp [hx, hs, hd] at h
        | some j =>
          simp only [hx, hs, hd, Option.bind_some] at h
          have h1 := (ok s i hs).desc
          have h2 := (ok d j hd).desc
          have hsrc : ∃ ds, P.underlying s = some ds := by
            revert h1
            split
            all_goals first
              | (intro h1; exact ⟨_, h1⟩)
              | (rintro ⟨d, h1, _⟩; exact ⟨_, h1⟩)
              | (rintro ⟨d, h1⟩; exact ⟨_, h1⟩)
          obtain ⟨ds, hds⟩ := hsrc
          simp only [execOp, ha.eval hx]
          split at h
          · rename_i k _ m hk
            rw [hk] at h2
            simp only [Option.some.injEq] at h; subst h
            unfold convert
            simp [run_underlying hds, run_underlying h2, Conv.intToInt]
          · rename_i m hk
            rw [hk] at h2
            simp only [Option.some.injEq] at h; subst h
            unfold convert
            simp [run_underlying hds, run_underlying h2]
          · contradiction
  case makeInterface t x =>
    cases hx : evalO L x with
    | none => simp [hx] at h
    | some vx =>
      cases ht : tt t with
      | none => simp [hx, ht] at h
      | some i =>
        simp only [hx, ht, Option.bind_some] at h
        have hd := (ok t i ht).desc
        simp only [execOp, ha.eval hx]
        split at hd <;> rename_i hk <;> simp only [hk, Option.some.injEq, reduceCtorEq] at h
        case h_7 => obtain ⟨l, hl, _⟩ := hd; subst h; simp [Instr.makeInterface, run_underlying hl]
        case h_9 => obtain ⟨d, hl, hd⟩ := hd; subst h; cases d <;> simp_all [Instr.makeInterface, run_underlying hl]
        all_goals (subst h; simp [Instr.makeInterface, run_underlying hd])
  case makeFunc fn xs ys =>
    cases hx : evalOs L xs.toList with
    | none => simp [hx] at h
    | some vs =>
      cases hy : evalOs L ys.toList with
      | none => simp [hx, hy] at h
      | some us =>
        simp [hx, hy] at h; subst h
        simp [execOp, evalO_map ha hx, evalO_map ha hy, Instr.makeFunc]
  case extract x i =>
    cases hx : evalO L x with
    | none => simp [hx] at h
    | some vx =>
      simp only [hx, Option.bind_some] at h
      split at h
      · rename_i vs
        simp [execOp, ha.eval hx, Instr.extract, h]
      · contradiction
  case field t x f =>
    cases hx : evalO L x with
    | none => simp [hx] at h
    | some vx =>
      cases hl : aggL vx with
      | none => simp [hx, hl] at h
      | some l =>
        cases ht : tt t with
        | none => simp [hx, ht] at h
        | some i =>
          simp only [hx, hl, ht, Option.bind_some] at h
          have hd := (ok t i ht).desc
          split at h
          · rename_i fs hk
            rw [hk] at hd
            obtain ⟨fl, hfl, hmap⟩ := hd
            split at h
            · rename_i off u hf
              cases hu : tt u with
              | none => simp [hu] at h
              | some j =>
                simp only [hu, Option.bind_some] at h
                subst hmap
                rw [List.getElem?_map] at hf
                cases hff : fl[f]? with
                | none => simp [hff] at hf
                | some fd =>
                  simp [hff] at hf
                  obtain ⟨rfl, rfl⟩ := hf
                  have hv : vx = .agg l.toArray := by
                    unfold aggL at hl
                    split at hl
                    · simp only [Option.some.injEq] at hl; rw [← hl]
                    · contradiction
                  simp [execOp, ha.eval hx, hv, Instr.field, run_underlying hfl, hff, asAgg, partF_run (ok _ _ hu) h]
            · contradiction
          · contradiction
  case nilCheck x =>
    cases hx : evalO L x with
    | none => simp [hx] at h
    | some vx =>
      simp only [hx, Option.bind_some] at h
      split at h
      · simp only [Option.some.injEq] at h; subst h
        simp [execOp, ha.eval hx]
      · contradiction
  case fieldAddr t x f =>
    cases hx : evalO L x with
    | none => simp [hx] at h
    | some vx =>
      cases ht : tt t with
      | none => simp [hx, ht] at h
      | some i =>
        simp only [hx, ht, Option.bind_some] at h
        have hd := (ok t i ht).desc
        split at h
        · rename_i fs b off hk
          rw [hk] at hd
          obtain ⟨fl, hfl, hmap⟩ := hd
          split at h
          · rename_i o u hf
            cases hu : tt u with
            | none => simp [hu] at h
            | some j =>
              simp only [hu, Option.bind_some] at h
              subst hmap
              rw [List.getElem?_map] at hf
              cases hff : fl[f]? with
              | none => simp [hff] at hf
              | some fd =>
                simp [hff] at hf
                obtain ⟨rfl, rfl⟩ := hf
                split at h
                · contradiction
                · rename_i m hm
                  simp only [Option.some.injEq] at h; subst h
                  simp [execOp, ha.eval hx, Instr.fieldAt, run_underlying hfl, hff, Instr.sureAddr, fieldPlace_run (ok _ _ hu) (by omega)]
          · contradiction
        · contradiction
  case build t ps =>
    cases hx : W.evalPs L ps.toList with
    | none => simp [hx] at h
    | some vs =>
      cases hb : buildF tt t vs with
      | none => simp [hx, hb] at h
      | some l =>
        simp [hx, hb] at h; subst h
        have e := ha.evalPs hx
        have e' : ps.map (fun (i, x) => (i, a.eval x)) = vs.toArray := by apply Array.toList_inj.1; simpa using e
        simp only [execOp, e']
        rw [run_bind_ok (buildF_run ok hb)]; rfl

theorem info_of {P : Program} {t : TypeId} {i : TypeInfo} (h : P.types[t]? = some i) : P.info? t = some i := by
  have : t < P.types.size := by
    rcases Nat.lt_or_ge t P.types.size with h' | h'
    · exact h'
    · rw [Array.getElem?_eq_none h'] at h; contradiction
  unfold Tables.info?
  rw [if_pos this, h]
/-- A table of types. -/
inductive Tr where
  | leaf
  | node (k : Nat) (v : TI) (l r : Tr)
def Tr.look : Tr → TypeId → Option TI
  | .leaf, _ => none
  | .node k v l r, t => bif Nat.beq t k then some v else bif Nat.blt t k then l.look t else r.look t
def Tr.Ok (P : Program) : Tr → Prop
  | .leaf => True
  | .node k v l r => TIok P k v ∧ l.Ok P ∧ r.Ok P
theorem Tr.look_ok {P : Program} : ∀ {t : Tr}, t.Ok P → ∀ k i, t.look k = some i → TIok P k i
  | .leaf, _, k, i, h => by simp [Tr.look] at h
  | .node k v l r, ⟨h1, h2, h3⟩, k', i, h => by
    simp only [Tr.look] at h
    cases hb : Nat.beq k' k with
    | true => simp [hb] at h; subst h; rw [beq_true hb]; exact h1
    | false =>
      simp only [hb, cond_false] at h
      cases hc : Nat.blt k' k with
      | true => simp only [hc, cond_true] at h; exact look_ok h2 k' i h
      | false => simp only [hc, cond_false] at h; exact look_ok h3 k' i h

section
variable {p : Pg} {fn : Func} {rd : List HProp} {post : Post} {C : Ctx p fn rd post} {all : Array Oper} {l : List Oper} {K : List It} {L : Env} {H : List HProp}

/-- Does the operation's guard let it run? -/
def guardV (all : Array Oper) (L : Env) (g : Option (Nat × Bool)) : Option Bool :=
  match g with
  | none => some true
  | some (j, want) =>
    match all[j]? with
    | some o => match o.dst with
      | some d => match look L d with
        | some (.bool b) => some (b == want)
        | _ => none
      | none => none
    | none => none

theorem guardV_wanted {a : Act} {n : Nat} (ha : Agr n L a) {o : Oper} {b : Bool} (h : guardV all L o.guard = some b) : Region.wanted o (yielded all a.tmps) = b := by
  unfold guardV at h
  unfold Region.wanted
  split at h <;> rename_i hg <;> rw [hg]
  · simpa using h
  · rename_i j want
    split at h
    · rename_i o' ho
      split at h
      · rename_i d hd
        split at h
        · rename_i b' hl
          simp only [Option.some.injEq] at h
          have := ha.cell d _ hl
          simp only [yielded, ho, Option.bind_some, hd, this]
          rw [← h]
          cases b' <;> cases want <;> rfl
        · contradiction
      · contradiction
    · contradiction

/-- One operation of a region, as a step from worlds to worlds. -/
theorem G.raw {o : Oper} (hg : guardV all L o.guard = some true)
    (h : ∀ a w F, Agr fn.ntmps L a → Sat H w F → Fr C.w0 C.F0 w F → o.wp p.P a w (fun a' w' => sem C (.ops all l :: K) .normal a' w') (sem C K)) : G C (.ops all (o :: l) :: K) L H := by
  intro a w F ha hs hf
  show wpList p.P all (sem C K) (o :: l) a w
  unfold wpList
  rw [if_pos (guardV_wanted ha hg)]
  exact .inl (h a w F ha hs hf)

/-- An operation that gives one value. -/
theorem G.val {o : Oper} {d : Tmp} {H' : Value → List HProp → Prop} (hg : guardV all L o.guard = some true) (hd : o.dst = some d) (hn : d < fn.ntmps)
    (h : ∀ a w F, Agr fn.ntmps L a → Sat H w F → Fr C.w0 C.F0 w F → ∃ v w' F' Hs, (execOp a.eval o).run p.P w = .ok (.value v) w' ∧ H' v Hs ∧ Sat Hs w' F' ∧ Fr C.w0 C.F0 w' F')
    (k : ∀ v Hs, H' v Hs → G C (.ops all l :: K) ((d, v) :: L) Hs) : G C (.ops all (o :: l) :: K) L H := by
  refine G.raw hg fun a w F ha hs hf => ?_
  obtain ⟨v, w', F', Hs, hr, hv, hs', hf'⟩ := h a w F ha hs hf
  simp only [Oper.wp, hr, Oper.upon_value, hd]
  exact k v Hs hv _ w' F' (ha.put hn v) hs' hf'

theorem G.val1 {o : Oper} {d : Tmp} {v : Value} {H' : List HProp} (hg : guardV all L o.guard = some true) (hd : o.dst = some d) (hn : d < fn.ntmps)
    (h : ∀ a w F, Agr fn.ntmps L a → Sat H w F → Fr C.w0 C.F0 w F → ∃ w' F', (execOp a.eval o).run p.P w = .ok (.value v) w' ∧ Sat H' w' F' ∧ Fr C.w0 C.F0 w' F')
    (k : G C (.ops all l :: K) ((d, v) :: L) H') : G C (.ops all (o :: l) :: K) L H :=
  G.val (H' := fun u Hs => u = v ∧ Hs = H') hg hd hn
    (fun a w F ha hs hf => by obtain ⟨w', F', h1, h2, h3⟩ := h a w F ha hs hf; exact ⟨v, w', F', H', h1, ⟨rfl, rfl⟩, h2, h3⟩)
    (fun _ _ ⟨h1, h2⟩ => by subst h1; subst h2; exact k)

/-- An operation that only reckons. -/
theorem G.op {o : Oper} {d : Tmp} {v : Value} (hv : opVal p.tt L o.op = some v) (hg : guardV all L o.guard = some true) (hd : o.dst = some d) (hn : Nat.blt d fn.ntmps = true)
    (k : G C (.ops all l :: K) ((d, v) :: L) H) : G C (.ops all (o :: l) :: K) L H :=
  G.val1 hg hd (Nat.le_of_ble_eq_true hn) (fun _ w F ha hs hf => ⟨w, F, opVal_run p.ok ha hv, hs, hf⟩) k

/-- An operation that the guard passes over. -/
theorem G.no {o : Oper} {d : Tmp} (hg : guardV all L o.guard = some false) (hd : o.dst = some d) (hn : Nat.blt d fn.ntmps = true)
    (k : G C (.ops all l :: K) ((d, undef) :: L) H) : G C (.ops all (o :: l) :: K) L H := by
  intro a w F ha hs hf
  show wpList p.P all (sem C K) (o :: l) a w
  unfold wpList
  rw [if_neg (by rw [guardV_wanted ha hg]; simp), hd]
  exact k _ w F (ha.put (Nat.le_of_ble_eq_true hn) undef) hs hf

/-- The Bool in a slot: both ways. -/
theorem G.bcase (d : Nat) {b : Bool} (hl : look L d = some (.bool b)) (k1 : b = true → G C K ((d, .bool true) :: L) H) (k2 : b = false → G C K ((d, .bool false) :: L) H) : G C K L H := by
  have key : ∀ c, b = c → G C K ((d, .bool c) :: L) H → G C K L H := by
    intro c hc k
    refine fun a w F ha hs hf => k a w F ⟨ha.size, ha.defers, fun t v ht => ?_⟩ hs hf
    simp only [look] at ht
    cases hb : Nat.beq t d with
    | true => rw [hb] at ht; simp at ht; subst ht; rw [beq_true hb, ← hc]; exact ha.cell _ _ hl
    | false => rw [hb] at ht; simp at ht; exact ha.cell _ _ ht
  cases b with
  | true => exact key true rfl (k1 rfl)
  | false => exact key false rfl (k2 rfl)

/-! ### Whole numbers within bounds -/
def arV (op : BinOp) (a b : Int) : Option Int :=
  match op with
  | .add => some (a + b)
  | .sub => some (a - b)
  | .mul => some (a * b)
  | _ => none
def inK : IntKind → Int → Prop
  | .i8, n => -128 ≤ n ∧ n ≤ 127
  | .i16, n => -32768 ≤ n ∧ n ≤ 32767
  | .i32, n => -2147483648 ≤ n ∧ n ≤ 2147483647
  | .i64, n => -9223372036854775808 ≤ n ∧ n ≤ 9223372036854775807
  | .u8, n => 0 ≤ n ∧ n ≤ 255
  | .u16, n => 0 ≤ n ∧ n ≤ 65535
  | .u32, n => 0 ≤ n ∧ n ≤ 4294967295
  | .u64, n => 0 ≤ n ∧ n ≤ 18446744073709551615
theorem wrap_in {k : IntKind} {n : Int} (h : inK k n) : k.wrap n = n := by
  cases k <;> simp only [inK] at h <;> simp only [IntKind.wrap, IntKind.signed, IntKind.bits] <;> simp <;> omega

def opAr (tt : TypeId → Option TI) (L : Env) (o : Op) : Option (IntKind × Int) :=
  match o with
  | .convert s d x => (evalO L x).bind fun a => (tt s).bind fun _ => (tt d).bind fun i => match i.k, a with
    | .int k, .int _ n => some (k, n)
    | _, _ => none
  | .binOp op _ x y _ => match evalO L x, evalO L y with
    | some (.int k a), some (.int k' b) => bif ikeq k k' then (arV op a b).map fun n => (k, n) else none
    | _, _ => none
  | _ => none

theorem opAr_opVal {tt : TypeId → Option TI} {o : Op} {k : IntKind} {n : Int} (h : opAr tt L o = some (k, n)) (hk : inK k n) : opVal tt L o = some (.int k n) := by
  unfold opAr at h
  split at h
  · rename_i s d x
    cases hx : evalO L x with
    | none => simp [hx] at h
    | some a =>
      cases hs : tt s with
      | none => simp [hx, hs] at h
      | some i =>
        cases hd : tt d with
        | none => simp [hx, hs, hd] at h
        | some j =>
          simp only [hx, hs, hd, Option.bind_some] at h
          split at h
          · rename_i k' _ n' hk'
            simp only [Option.some.injEq, Prod.mk.injEq] at h
            obtain ⟨rfl, rfl⟩ := h
            simp only [opVal, hx, hs, hd, Option.bind_some, hk', wrap_in hk]
          · contradiction
  · rename_i op t x y t'
    split at h
    · rename_i k' a k'' b hx hy
      cases hq : ikeq k' k'' with
      | false => simp [hq] at h
      | true =>
        simp only [hq, cond_true] at h
        simp only [opVal, hx, hy, Option.bind_some, binV, hq, cond_true]
        cases op <;> simp only [arV, Option.map_some, Option.map_none, Option.some.injEq, reduceCtorEq, Prod.mk.injEq] at h
        all_goals (obtain ⟨rfl, rfl⟩ := h; simp only [binI, wrap_in hk])
    · contradiction
  · contradiction

/-- A sum, a difference or a product that fits. -/
theorem G.ar {o : Oper} {d : Tmp} {k : IntKind} {n : Int} (hv : opAr p.tt L o.op = some (k, n)) (hk : inK k n) (hg : guardV all L o.guard = some true) (hd : o.dst = some d) (hn : Nat.blt d fn.ntmps = true)
    (g : G C (.ops all l :: K) ((d, .int k n) :: L) H) : G C (.ops all (o :: l) :: K) L H := G.op (opAr_opVal hv hk) hg hd hn g
/-- The same, of ints. -/
theorem G.ari {o : Oper} {d : Tmp} {n : Int} (hv : opAr p.tt L o.op = some (.i64, n)) (hk : -9223372036854775808 ≤ n ∧ n ≤ 9223372036854775807) (hg : guardV all L o.guard = some true) (hd : o.dst = some d) (hn : Nat.blt d fn.ntmps = true)
    (g : G C (.ops all l :: K) ((d, .int .i64 n) :: L) H) : G C (.ops all (o :: l) :: K) L H := G.ar hv hk hg hd hn g

/-- A reckoned value under another spelling. -/
theorem G.opE {o : Oper} {d : Tmp} {v u : Value} (hv : opVal p.tt L o.op = some v) (he : v = u) (hg : guardV all L o.guard = some true) (hd : o.dst = some d) (hn : Nat.blt d fn.ntmps = true)
    (k : G C (.ops all l :: K) ((d, u) :: L) H) : G C (.ops all (o :: l) :: K) L H := by subst he; exact G.op hv hg hd hn k
end
end Go.W

/- The steps of a walk that touch memory: load, store, new variables, slices' elements, calls. -/
namespace Go.W

/-! ## Where a block's cells stand -/
class HasPts (H : List HProp) (b : Nat) (l : outParam (List Value)) : Prop where
  own : ∀ w F, Sat H w F → ownAt w b l ∧ F b
instance HasPts.here (b : Nat) (l : List Value) (H : List HProp) : HasPts (pts b l :: H) b l :=
  ⟨fun _ _ ⟨_, _, h, _, _, ha, _⟩ => ⟨h.2, ha b h.1⟩⟩
instance (priority := low) HasPts.there (x : HProp) (b : Nat) (l : List Value) (H : List HProp) [h : HasPts H b l] : HasPts (x :: H) b l :=
  ⟨fun w _ ⟨_, F2, _, h2, _, _, hb⟩ => ⟨(h.own w F2 h2).1, hb b (h.own w F2 h2).2⟩⟩

/-- The owned block 'b' is put anew. -/
class Upd (H : List HProp) (b : Nat) (l : outParam (List Value)) (mk : outParam (List Value → List HProp)) : Prop where
  own : ∀ w F, Sat H w F → ownAt w b l ∧ F b
  set : ∀ w F w' l', Sat H w F → (∀ c, c ≠ b → w'.heap[c]? = w.heap[c]?) → ownAt w' b l' → Sat (mk l') w' F
instance Upd.here (b : Nat) (l : List Value) (H : List HProp) : Upd (pts b l :: H) b l (fun l' => pts b l' :: H) where
  own := fun _ _ ⟨_, _, h, _, _, ha, _⟩ => ⟨h.2, ha b h.1⟩
  set := fun _ _ _ _ ⟨F1, F2, h, h2, hd, ha, hb⟩ hw ho =>
    ⟨F1, F2, ⟨h.1, ho⟩, h2.loc (fun c hc => hw c (fun e => by subst e; exact hd _ h.1 hc)), hd, ha, hb⟩
instance (priority := low) Upd.there (x : HProp) (b : Nat) (l : List Value) (H : List HProp) (mk : List Value → List HProp) [u : Upd H b l mk] : Upd (x :: H) b l (fun l' => x :: mk l') where
  own := fun w _ ⟨_, F2, _, h2, _, _, hb⟩ => ⟨(u.own w F2 h2).1, hb b (u.own w F2 h2).2⟩
  set := fun w _ w' l' ⟨F1, F2, h1, h2, hd, ha, hb⟩ hw ho =>
    ⟨F1, F2, x.loc w w' F1 (fun c hc => hw c (fun e => by subst e; exact hd _ hc (u.own w F2 h2).2)) h1, u.set w F2 w' l' h2 hw ho, hd, ha, hb⟩

section
variable {p : Pg} {fn : Func} {rd : List HProp} {post : Post}

/-- A block that was there and is only read. -/
class RB (C : Ctx p fn rd post) (b : Nat) (l : outParam (List Value)) : Prop where
  blk : blkAt C.w0 b l
  free : ¬ C.F0 b

theorem blkAt.lt {w : World} {b : Nat} {l : List Value} (h : blkAt w b l) : b < w.heap.size := by
  obtain ⟨T, fr, h⟩ := h
  rcases Nat.lt_or_ge b w.heap.size with h' | h'
  · exact h'
  · rw [Array.getElem?_eq_none h'] at h; contradiction

theorem RB.now {C : Ctx p fn rd post} {b : Nat} {l : List Value} (r : RB C b l) {w : World} {F : Foot} (hf : Fr C.w0 C.F0 w F) : blkAt w b l ∧ ¬ F b := by
  have hl := r.blk.lt
  obtain ⟨T, fr, h⟩ := r.blk
  exact ⟨⟨T, fr, by rw [hf.kept b hl r.free]; exact h⟩, fun hb => r.free (hf.own b hb hl)⟩

/-- Out of the list of what is read. -/
theorem RB.of (C : Ctx p fn rd post) {b : Nat} {l : List Value} (h : rdb b l ∈ rd) : RB C b l := by
  obtain ⟨S, ⟨hb, hs⟩, _, hf⟩ := C.hrd _ h
  exact ⟨hs, hf b hb⟩

/-- A block whose cells are known, owned or not. -/
class Blk (C : Ctx p fn rd post) (H : List HProp) (b : Nat) (l : outParam (List Value)) : Prop where
  blk : ∀ w F, Sat H w F → Fr C.w0 C.F0 w F → blkAt w b l
instance Blk.own (C : Ctx p fn rd post) (H : List HProp) (b : Nat) (l : List Value) [h : HasPts H b l] : Blk C H b l := ⟨fun w F hs _ => (h.own w F hs).1.blk⟩
instance (priority := low) Blk.ro (C : Ctx p fn rd post) (H : List HProp) (b : Nat) (l : List Value) [r : RB C b l] : Blk C H b l := ⟨fun _ _ _ hf => (r.now hf).1⟩
end

/-! ## Loads and stores -/
theorem loadCells_run {P : Program} {w : World} {b : Nat} {l : List Value} (h : blkAt w b l) (off n : Nat) (hn : off + n ≤ l.length) : (loadCells ⟨b, off, none⟩ n).run P w = .ok ((l.drop off).take n).toArray w := by
  have hl : ((l.drop off).take n).length = n := by simp; omega
  have e := run_loadCells_list (P := P) w ⟨b, off, none⟩ ((l.drop off).take n) (fun j v hj => by
    rw [Addr.add_none]
    apply h.cell
    rw [List.getElem?_take] at hj
    split at hj
    · rw [List.getElem?_drop] at hj; exact hj
    · contradiction)
  rw [hl] at e
  exact e

theorem loadVar_run {P : Program} {w : World} {t : TypeId} {i : TI} (hi : TIok P t i) {b off : Nat} {l : List Value} (h : blkAt w b l) {v : Value} (hv : partF i l off = some v) :
    (loadVar t ⟨b, off, none⟩).run P w = .ok v w := by
  unfold loadVar
  rw [run_bind_ok (run_isAgg hi)]
  unfold partF at hv
  cases ha : i.agg with
  | true =>
    simp only [ha, cond_true] at hv
    cases hd : dropF off l with
    | none => simp [hd] at hv
    | some d =>
      cases ht : takeF i.size d with
      | none => simp [hd, ht] at hv
      | some c =>
        simp [hd, ht] at hv
        subst hv
        obtain ⟨rfl, h1⟩ := dropF_eq hd
        obtain ⟨rfl, h2⟩ := takeF_eq ht
        rw [if_pos rfl, run_bind_ok (run_sizeOf hi), run_bind_ok (loadCells_run h off i.size (by simp at h2; omega))]
        rfl
  | false =>
    simp only [ha, cond_false] at hv
    rw [if_neg (by simp)]
    have := h.cell hv
    simp [this]

/-- Behind stores into the block 'b'. -/
structure Wrote (w : World) (b : Nat) (w' : World) : Prop where
  other : ∀ c, c ≠ b → w'.heap[c]? = w.heap[c]?
  size : w'.heap.size = w.heap.size
  tape : w'.tape = w.tape
  os : w'.os = w.os
  out : w'.output = w.output

theorem Wrote.fr {w0 w w' : World} {F0 F : Foot} {b : Nat} (h : Wrote w b w') (hf : Fr w0 F0 w F) (hb : F b) : Fr w0 F0 w' F := by
  refine ⟨by rw [h.size]; exact hf.size, fun c hc hn => ?_, hf.own, fun c hc => by rw [h.size]; exact hf.inb c hc, h.tape.trans hf.tape, h.os.trans hf.os, h.out.trans hf.out⟩
  rw [h.other c, hf.kept c hc hn]
  rintro rfl
  exact hn (hf.own c hb hc)

theorem storeCells_run {P : Program} : ∀ {cs : List Value} {w : World} {b off : Nat} {l : List Value} (i : Nat), ownAt w b l → off + i + cs.length ≤ l.length → (∀ v ∈ cs, v.oneCell' = true) →
    ∃ w', (storeCells ⟨b, off, none⟩ cs i).run P w = .ok () w' ∧ ownAt w' b (l.take (off + i) ++ cs ++ l.drop (off + i + cs.length)) ∧ Wrote w b w'
  | [], w, b, off, l, i, h, _, _ => ⟨w, rfl, by simpa using h, ⟨fun _ _ => rfl, rfl, rfl, rfl, rfl⟩⟩
  | v :: cs, w, b, off, l, i, h, hl, hc => by
    simp only [List.length_cons] at hl
    have hlt : off + i < l.length := by omega
    have h1 := h.set (off + i) v
    obtain ⟨w', hr, ho, hw⟩ := storeCells_run (P := P) (cs := cs) (off := off) (i + 1) h1 (by simp; omega) (fun u hu => hc u (List.mem_cons_of_mem _ hu))
    have hv : v.oneCell' = true := hc v List.mem_cons_self
    have hcell : w.cell? ⟨b, off + i, none⟩ = some l[off + i] := h.blk.cell (by simp [hlt])
    refine ⟨w', ?_, ?_, ⟨fun c hc => ?_, ?_, ?_, ?_, ?_⟩⟩
    · unfold storeCells
      rw [Addr.add_none, run_bind_ok (a := ()) (w' := w.setCell ⟨b, off + i, none⟩ v)]
      · exact hr
      · rw [run_store P w _ v .plain hv, hcell]
        simp [h.free hlt]
    · have e : (l.set (off + i) v).take (off + (i + 1)) ++ cs ++ (l.set (off + i) v).drop (off + (i + 1) + cs.length) = l.take (off + i) ++ v :: cs ++ l.drop (off + i + (cs.length + 1)) := by
        have ha : (l.take (off + i)).length = off + i := by simp; omega
        rw [List.set_eq_take_append_cons_drop, if_pos hlt]
        have e1 : off + (i + 1) = (l.take (off + i)).length + 1 := by rw [ha]; omega
        have e2 : off + (i + 1) + cs.length = (l.take (off + i)).length + (1 + cs.length) := by rw [ha]; omega
        rw [e2, List.drop_append, e1, List.take_append]
        simp only [Nat.add_sub_cancel_left, List.take_succ_cons, List.take_zero]
        rw [List.take_of_length_le (by omega), List.drop_eq_nil_of_le (by omega), Nat.add_comm 1 cs.length, List.drop_succ_cons, List.drop_drop]
        simp only [List.append_assoc, List.cons_append, List.nil_append]
        congr 4
        omega
      rw [e] at ho
      exact ho
    · rw [hw.other c hc, setCell_other hc]
    · rw [hw.size, setCell_size]
    · exact hw.tape
    · exact hw.os
    · exact hw.out

def oneC (v : Value) : Bool := match v with | .agg _ => false | .tuple _ => false | _ => true
theorem oneC_eq (v : Value) : v.oneCell' = oneC v := by cases v <;> rfl
def allOne : List Value → Bool
  | [] => true
  | v :: vs => bif oneC v then allOne vs else false
theorem allOne_mem : ∀ {vs : List Value}, allOne vs = true → ∀ v ∈ vs, v.oneCell' = true
  | [], _, v, hv => by cases hv
  | u :: vs, h, v, hv => by
    simp only [allOne] at h
    cases hu : oneC u with
    | false => simp [hu] at h
    | true =>
      simp only [hu, cond_true] at h
      rcases List.mem_cons.1 hv with rfl | hv
      · rw [oneC_eq]; exact hu
      · exact allOne_mem h v hv

theorem storeVar_run {P : Program} {w : World} {t : TypeId} {i : TI} (hi : TIok P t i) {b off : Nat} {l : List Value} (h : ownAt w b l) {v : Value} (hs : (cellsL v).length = i.size) (hc : ∀ u ∈ cellsL v, u.oneCell' = true)
    (hl : off + (cellsL v).length ≤ l.length) :
    ∃ w', (storeVar t ⟨b, off, none⟩ v).run P w = .ok () w' ∧ ownAt w' b (l.take off ++ cellsL v ++ l.drop (off + (cellsL v).length)) ∧ Wrote w b w' := by
  obtain ⟨w', hr, ho, hw⟩ := storeCells_run (P := P) 0 h (by simpa using hl) hc
  refine ⟨w', ?_, by simpa using ho, hw⟩
  unfold storeVar
  rw [run_bind_ok (run_sizeOf hi)]
  simp only [cellsL_eq]
  rw [if_neg (by simp [hs])]
  exact hr

/-- What a load names. -/
def ldO (tt : TypeId → Option TI) (L : Env) (o : Op) : Option (Nat × Nat × TI) :=
  match o with
  | .load t x => (tt t).bind fun i => (evalO L x).bind fun a => match a with
    | .pointer (some ⟨b, off, none⟩) => some (b, off, i)
    | _ => none
  | _ => none

theorem ldO_inv {tt : TypeId → Option TI} {L : Env} {o : Op} {b off : Nat} {i : TI} (h : ldO tt L o = some (b, off, i)) :
    ∃ t x, o = .load t x ∧ tt t = some i ∧ evalO L x = some (.pointer (some ⟨b, off, none⟩)) := by
  unfold ldO at h
  split at h
  · rename_i t x
    cases ht : tt t with
    | none => simp [ht] at h
    | some j =>
      cases hx : evalO L x with
      | none => simp [ht, hx] at h
      | some a =>
        simp only [ht, hx, Option.bind_some] at h
        split at h
        · simp only [Option.some.injEq, Prod.mk.injEq] at h
          obtain ⟨rfl, rfl, rfl⟩ := h
          exact ⟨t, x, rfl, ht, hx⟩
        · contradiction
  · contradiction

def stO (tt : TypeId → Option TI) (L : Env) (o : Op) : Option (Nat × Nat × List Value) :=
  match o with
  | .store t x y => (tt t).bind fun i => (evalO L x).bind fun a => (evalO L y).bind fun v => match a with
    | .pointer (some ⟨b, off, none⟩) => bif Nat.beq (cellsL v).length i.size then (bif allOne (cellsL v) then some (b, off, cellsL v) else none) else none
    | _ => none
  | _ => none

theorem stO_run {P : Program} {tt : TypeId → Option TI} (ok : ∀ t i, tt t = some i → TIok P t i) {L : Env} {a : Act} {n : Nat} (ha : Agr n L a) {o : Oper} {b off : Nat} {cs : List Value}
    (h : stO tt L o.op = some (b, off, cs)) {w : World} {l : List Value} (ho : ownAt w b l) (hl : off + cs.length ≤ l.length) :
    ∃ w', (execOp a.eval o).run P w = .ok .skip w' ∧ ownAt w' b (l.take off ++ cs ++ l.drop (off + cs.length)) ∧ Wrote w b w' := by
  obtain ⟨dst, op, ty, pos, after, guard⟩ := o
  unfold stO at h
  split at h
  · rename_i t x y hop
    cases ht : tt t with
    | none => simp [ht] at h
    | some i =>
      cases hx : evalO L x with
      | none => simp [ht, hx] at h
      | some u =>
        cases hy : evalO L y with
        | none => simp [ht, hx, hy] at h
        | some v =>
          simp only [ht, hx, hy, Option.bind_some] at h
          split at h
          · cases hb : Nat.beq (cellsL v).length i.size with
            | false => simp [hb] at h
            | true =>
              cases hc : allOne (cellsL v) with
              | false => simp [hb, hc] at h
              | true =>
                simp [hb, hc] at h
                obtain ⟨rfl, rfl, rfl⟩ := h
                obtain ⟨w', hr, h1, h2⟩ := storeVar_run (ok t i ht) ho (beq_true hb) (allOne_mem hc) hl
                refine ⟨w', ?_, h1, h2⟩
                simp only at hop
                subst hop
                simp [execOp, ha.eval hx, ha.eval hy, Instr.storeAt, Instr.sureAddr, hr]
          · contradiction
  · contradiction

section
variable {p : Pg} {fn : Func} {rd : List HProp} {post : Post} {C : Ctx p fn rd post} {all : Array Oper} {l : List Oper} {K : List It} {L : Env} {H : List HProp}

theorem G.ld {o : Oper} {d : Tmp} {v : Value} {b off : Nat} {i : TI} {cs : List Value} (hop : ldO p.tt L o.op = some (b, off, i)) [hb : Blk C H b cs] (hg : guardV all L o.guard = some true) (hd : o.dst = some d)
    (hn : Nat.blt d fn.ntmps = true) (hv : partF i cs off = some v) (k : G C (.ops all l :: K) ((d, v) :: L) H) : G C (.ops all (o :: l) :: K) L H := by
  refine G.val1 hg hd (Nat.le_of_ble_eq_true hn) (fun a w F ha hs hf => ⟨w, F, ?_, hs, hf⟩) k
  obtain ⟨dst, op, ty, pos, after, guard⟩ := o
  obtain ⟨t, x, rfl, ht, hx⟩ := ldO_inv hop
  simp [execOp, ha.eval hx, Instr.loadAt, Instr.sureAddr, loadVar_run (p.ok t i ht) (hb.blk w F hs hf) hv]

/-- A load of a struct or an array out of a block that isn't written out. -/
theorem G.lda {o : Oper} {d : Tmp} {b off : Nat} {i : TI} {cs : List Value} (hop : ldO p.tt L o.op = some (b, off, i)) [hb : Blk C H b cs] (hg : guardV all L o.guard = some true) (hd : o.dst = some d)
    (hn : Nat.blt d fn.ntmps = true) (hagg : i.agg = true) (vs : List Value) (hv : (cs.drop off).take i.size = vs) (hl : off + i.size ≤ cs.length) (k : G C (.ops all l :: K) ((d, .agg vs.toArray) :: L) H) : G C (.ops all (o :: l) :: K) L H := by
  refine G.val1 hg hd (Nat.le_of_ble_eq_true hn) (fun a w F ha hs hf => ⟨w, F, ?_, hs, hf⟩) k
  obtain ⟨dst, op, ty, pos, after, guard⟩ := o
  obtain ⟨t, x, rfl, ht, hx⟩ := ldO_inv hop
  have hi := p.ok t i ht
  simp [execOp, ha.eval hx, Instr.loadAt, Instr.sureAddr, loadVar, run_isAgg hi, hagg, run_sizeOf hi, loadCells_run (hb.blk w F hs hf) off i.size hl, hv]

theorem G.stS {o : Oper} {b off : Nat} {cs : List Value} {m : List Value} {mk : List Value → List HProp} (hop : stO p.tt L o.op = some (b, off, cs)) [hb : Upd H b m mk] (hg : guardV all L o.guard = some true) (hd : o.dst = none)
    (m' : List Value) (hm : m.take off ++ cs ++ m.drop (off + cs.length) = m') (hl : off + cs.length ≤ m.length) (k : G C (.ops all l :: K) L (mk m')) : G C (.ops all (o :: l) :: K) L H := by
  refine G.raw hg fun a w F ha hs hf => ?_
  obtain ⟨ho, hF⟩ := hb.own w F hs
  obtain ⟨w', hr, h1, h2⟩ := stO_run p.ok ha hop ho hl
  simp only [Oper.wp, hr, Oper.upon_skip, hd]
  rw [hm] at h1
  exact k _ w' F ha (hb.set w F w' m' hs h2.other h1) (h2.fr hf hF)

theorem G.sto {o : Oper} {b off : Nat} {cs : List Value} {m m' : List Value} {mk : List Value → List HProp} (hop : stO p.tt L o.op = some (b, off, cs)) [hb : Upd H b m mk] (hg : guardV all L o.guard = some true) (hd : o.dst = none)
    (hm : putF off cs m = some m') (k : G C (.ops all l :: K) L (mk m')) : G C (.ops all (o :: l) :: K) L H := by
  obtain ⟨h1, h2⟩ := putF_eq hm
  exact G.stS hop hg hd m' h1.symm h2 k

/-! ## New variables -/
theorem Sat.fresh {H : List HProp} {w : World} {F : Foot} {l : List Value} {T : TypeId} (hs : Sat H w F) (hi : ∀ b, F b → b < w.heap.size) (n : Nat) :
    Sat (pts w.heap.size l :: H) { w with heap := w.heap.push (.cells l.toArray T), drawn := n } (fun b => F b ∨ b = w.heap.size) := by
  refine ⟨fun b => b = w.heap.size, F, ⟨rfl, T, 0, 0, by simp, .inl rfl⟩, hs.loc fun b hb => ?_, fun b h h' => ?_, fun b h => .inr h, fun b h => .inl h⟩
  · have := hi b hb
    show (w.heap.push _)[b]? = _
    rw [Array.getElem?_push_lt this]
    simp [this]
  · subst h; exact Nat.lt_irrefl _ (hi _ h')

theorem Fr.fresh {w0 w : World} {F0 F : Foot} (hf : Fr w0 F0 w F) (o : Obj) (n : Nat) : Fr w0 F0 { w with heap := w.heap.push o, drawn := n } (fun b => F b ∨ b = w.heap.size) := by
  refine ⟨?_, fun b hb hn => ?_, ?_, ?_, hf.tape, hf.os, hf.out⟩
  · simp; exact Nat.le_succ_of_le hf.size
  · have h := Nat.lt_of_lt_of_le hb hf.size
    show (w.heap.push o)[b]? = _
    rw [← hf.kept b hb hn, Array.getElem?_push_lt h]
    simp [h]
  · rintro b (h | h) hb
    · exact hf.own b h hb
    · subst h; exact absurd hb (Nat.not_lt.2 hf.size)
  · rintro b (h | h)
    · simp; exact Nat.lt_succ_of_lt (hf.inb b h)
    · subst h; simp

def cellsF : Value → Option (List Value)
  | .agg ⟨l⟩ => some l
  | .bool b => some [.bool b]
  | .int k n => some [.int k n]
  | .float k n => some [.float k n]
  | .complex k n m => some [.complex k n m]
  | .string s => some [.string s]
  | .pointer a => some [.pointer a]
  | .slice a n c => some [.slice a n c]
  | .map r => some [.map r]
  | .chan r => some [.chan r]
  | .func f x y => some [.func f x y]
  | .nilFunc => some [.nilFunc]
  | .iface t v => some [.iface t v]
  | .nilIface => some [.nilIface]
  | .tuple _ => none
theorem cellsF_eq {v : Value} {l : List Value} (h : cellsF v = some l) : l = cellsL v := by
  cases v <;> simp only [cellsF, Option.some.injEq, reduceCtorEq] at h <;> first | exact h.symm | exact h.elim

/-- What a new variable holds. -/
def newO (tt : TypeId → Option TI) (L : Env) (o : Op) : Option (List Value) :=
  match o with
  | .alloc t => match tt t with | some ⟨_, _, _, z⟩ => some z | none => none
  | .box t x => (tt t).bind fun _ => (evalO L x).bind cellsF
  | _ => none

/-- 'new' and the variables whose address is taken. -/
theorem G.new {o : Oper} {d : Tmp} {cs : List Value} (hop : newO p.tt L o.op = some cs) (hg : guardV all L o.guard = some true) (hd : o.dst = some d) (hn : Nat.blt d fn.ntmps = true)
    (k : ∀ b, G C (.ops all l :: K) ((d, .pointer (some ⟨b, 0, none⟩)) :: L) (pts b cs :: H)) : G C (.ops all (o :: l) :: K) L H := by
  refine G.val (H' := fun v Hs => ∃ b, v = .pointer (some ⟨b, 0, none⟩) ∧ Hs = pts b cs :: H) hg hd (Nat.le_of_ble_eq_true hn) (fun a w F ha hs hf => ?_) ?_
  · obtain ⟨dst, op, ty, pos, after, guard⟩ := o
    unfold newO at hop
    split at hop
    · rename_i t hop'
      simp only at hop'; subst hop'
      cases ht : p.tt t with
      | none => simp [ht] at hop
      | some i =>
        simp [ht] at hop; subst hop
        obtain ⟨z, hz, hzc⟩ := run_zeroValue (w := w) (p.ok t i ht)
        refine ⟨_, { w with heap := w.heap.push (.cells i.zero.toArray t), drawn := w.drawn }, _, _, ?_, ⟨w.heap.size, rfl, rfl⟩, hs.fresh hf.inb _, hf.fresh _ _⟩
        simp [execOp, Instr.alloc, hz, newVar, newRow, hzc]
    · rename_i t x hop'
      simp only at hop'; subst hop'
      cases ht : p.tt t with
      | none => simp [ht] at hop
      | some i =>
        cases hx : evalO L x with
        | none => simp [ht, hx] at hop
        | some v =>
          simp [ht, hx] at hop
          have hop := cellsF_eq hop
          subst hop
          refine ⟨_, { w with heap := w.heap.push (.cells (cellsL v).toArray t), drawn := w.drawn }, _, _, ?_, ⟨w.heap.size, rfl, rfl⟩, hs.fresh hf.inb _, hf.fresh _ _⟩
          simp [execOp, Instr.box, ha.eval hx, newVar, newRow, cellsL_eq]
    · contradiction
  · rintro v Hs ⟨b, rfl, rfl⟩
    exact k b

/-- A slice's literal. -/
def bslO (tt : TypeId → Option TI) (L : Env) (o : Op) : Option (Nat × List Value) :=
  match o with
  | .buildSlice t n ps => (tt t).bind fun i => match i.k with
    | .slice e => (tt e).bind fun j => (evalPs L ps.toList).bind fun vs => bif Nat.ble (n * j.size) 65536 then
        (bif Nat.blt 0 (n * j.size) then (bif Nat.beq j.zero.length j.size then ((fillF (fun i => some (i * j.size, j.size)) (List.replicate n j.zero).flatten vs).bind (forceN 100)).map fun l => (n, l) else none) else ((fillF (fun i => some (i * j.size, j.size)) [] vs).bind (forceN 100)).map fun l => (n, l)) else none
    | _ => none
  | _ => none

theorem range_flatten (n : Nat) (z : List Value) (hz : 0 < n * z.length) : (Array.range (n * z.length)).map (fun i => z.toArray[i % z.toArray.size]!) = (List.replicate n z).flatten.toArray := by
  apply Array.toList_inj.1
  simp only [Array.toList_map, Array.toList_range]
  apply List.ext_getElem?
  intro i
  have hz0 : 0 < z.length := Nat.pos_of_mul_pos_left hz
  have key : ∀ (n i : Nat), (List.replicate n z).flatten[i]? = if i < n * z.length then z[i % z.length]? else none := by
    intro n
    induction n with
    | zero => intro i; simp
    | succ n ih =>
      intro i
      rw [List.replicate_succ, List.flatten_cons, List.getElem?_append]
      split
      · rename_i h
        rw [Nat.mod_eq_of_lt h, if_pos (by rw [Nat.succ_mul]; omega)]
      · rename_i h
        rw [ih]
        have e : (i - z.length) % z.length = i % z.length := by
          conv => rhs; rw [show i = (i - z.length) + z.length by omega]
          rw [Nat.add_mod_right]
        rw [e, Nat.succ_mul]
        by_cases hlt : i - z.length < n * z.length
        · rw [if_pos hlt, if_pos (by omega)]
        · rw [if_neg hlt, if_neg (by omega)]
  rw [key]
  rw [List.getElem?_map]
  by_cases hlt : i < n * z.length
  · have hm : i % z.length < z.length := Nat.mod_lt _ hz0
    rw [List.getElem?_range hlt, if_pos hlt]
    simp [hm]
  · rw [List.getElem?_eq_none (by simpa using hlt), if_neg hlt]; rfl

theorem zero_len {P : Program} {t : TypeId} {i : TI} (_h : TIok P t i) (hz : Nat.beq i.zero.length i.size = true) : i.zero.length = i.size := beq_true hz

theorem G.bsl {o : Oper} {d : Tmp} {n : Nat} {cs : List Value} (hop : bslO p.tt L o.op = some (n, cs)) (hg : guardV all L o.guard = some true) (hd : o.dst = some d) (hn : Nat.blt d fn.ntmps = true)
    (k : ∀ b, G C (.ops all l :: K) ((d, .slice (some ⟨b, 0, none⟩) n n) :: L) (pts b cs :: H)) : G C (.ops all (o :: l) :: K) L H := by
  refine G.val (H' := fun v Hs => ∃ b, v = .slice (some ⟨b, 0, none⟩) n n ∧ Hs = pts b cs :: H) hg hd (Nat.le_of_ble_eq_true hn) (fun a w F ha hs hf => ?_) ?_
  · obtain ⟨dst, op, ty, pos, after, guard⟩ := o
    unfold bslO at hop
    split at hop
    · rename_i t m ps hop'
      simp only at hop'; subst hop'
      cases ht : p.tt t with
      | none => simp [ht] at hop
      | some i =>
        simp only [ht, Option.bind_some] at hop
        split at hop
        · rename_i e hk
          have hd := (p.ok t i ht).desc
          rw [hk] at hd
          cases he : p.tt e with
          | none => simp [he] at hop
          | some j =>
            cases hx : W.evalPs L ps.toList with
            | none => simp [he, hx] at hop
            | some vs =>
              simp only [he, hx, Option.bind_some] at hop
              have hps := ha.evalPs hx
              have e' : ps.map (fun (i, x) => (i, a.eval x)) = vs.toArray := by apply Array.toList_inj.1; simpa using hps
              have hj := p.ok e j he
              obtain ⟨z, hz, hzc⟩ := run_zeroValue (w := w) hj
              cases hle : Nat.ble (m * j.size) 65536 with
              | false => simp [hle] at hop
              | true =>
                have hle' := Nat.le_of_ble_eq_true hle
                simp only [hle, cond_true] at hop
                cases h0 : Nat.blt 0 (m * j.size) with
                | true =>
                  have h0' : 0 < m * j.size := Nat.le_of_ble_eq_true h0
                  simp only [h0, cond_true] at hop
                  cases hb : Nat.beq j.zero.length j.size with
                  | false => simp [hb] at hop
                  | true =>
                    have hb' := beq_true hb
                    simp only [hb, cond_true] at hop
                    cases hfl : fillF (fun i => some (i * j.size, j.size)) (List.replicate m j.zero).flatten vs with
                    | none => simp [hfl] at hop
                    | some r =>
                      simp [hfl] at hop
                      obtain ⟨hforce, rfl⟩ := hop
                      obtain rfl := forceN_eq hforce
                      have hfill := fillF_eq hfl
                      refine ⟨_, { w with heap := w.heap.push (.cells cs.toArray e), drawn := w.drawn }, _, _, ?_, ⟨w.heap.size, rfl, rfl⟩, hs.fresh hf.inb _, hf.fresh _ _⟩
                      simp only [execOp, e']
                      unfold Instr.buildSlice
                      rw [run_bind_ok (a := .slice (some ⟨w.heap.size, 0, none⟩) m m) (w' := { w with heap := w.heap.push (.cells cs.toArray e), drawn := w.drawn })]
                      · rfl
                      · rw [run_bind_ok (run_underlying hd)]
                        simp only []
                        rw [run_bind_ok (run_sizeOf hj), if_neg (by omega), if_neg (by omega)]
                        simp only [hz, Sem.run_bind, Result.andThen_ok, hzc, Sem.run_pure]
                        have hr := range_flatten m j.zero (by rw [hb']; exact h0')
                        rw [hb'] at hr
                        rw [hr, hfill]
                        simp [newRow]
                | false =>
                  have h0' : m * j.size = 0 := by
                    have : ¬ 0 < m * j.size := by intro h; rw [show Nat.blt 0 (m * j.size) = true from Nat.ble_eq_true_of_le h] at h0; exact Bool.noConfusion h0
                    omega
                  simp only [h0, cond_false] at hop
                  cases hfl : fillF (fun i => some (i * j.size, j.size)) [] vs with
                  | none => simp [hfl] at hop
                  | some r =>
                    simp [hfl] at hop
                    obtain ⟨hforce, rfl⟩ := hop
                    obtain rfl := forceN_eq hforce
                    have hfill := fillF_eq hfl
                    refine ⟨_, { w with heap := w.heap.push (.cells cs.toArray e), drawn := w.drawn }, _, _, ?_, ⟨w.heap.size, rfl, rfl⟩, hs.fresh hf.inb _, hf.fresh _ _⟩
                    simp only [execOp, e']
                    unfold Instr.buildSlice
                    rw [run_bind_ok (a := .slice (some ⟨w.heap.size, 0, none⟩) m m) (w' := { w with heap := w.heap.push (.cells cs.toArray e), drawn := w.drawn })]
                    · rfl
                    · have e0 : ∀ f : Nat → Value, (Array.range 0).map f = #[] := fun _ => by simp [← Array.size_eq_zero_iff]
                      rw [run_bind_ok (run_underlying hd)]
                      simp only []
                      rw [run_bind_ok (run_sizeOf hj), if_neg (by omega), if_pos h0', h0']
                      simp only [Sem.run_bind, Sem.run_pure, Result.andThen_ok, e0, hfill]
                      simp [newRow]
        · contradiction
    · contradiction
  · rintro v Hs ⟨b, rfl, rfl⟩
    exact k b

end
end Go.W

/- Elements' addresses, lengths, calls; slices as owned or read lists; append, make, copy. -/
namespace Go.W

/-! ## Lengths -/
/-- len and cap of a slice or a string; len of an array by its type. -/
def lenO (tt : TypeId → Option TI) (L : Env) (o : Op) : Option Int :=
  match o with
  | .call { callee := .builtin .len, args := ⟨[x]⟩, argTypes := ⟨[t]⟩ } => (tt t).bind fun i => (evalO L x).bind fun a => match i.k, a with
    | .slice _, .slice _ n _ => some n
    | .string, .string s => some s.size
    | _, _ => none
  | .call { callee := .builtin .cap, args := ⟨[x]⟩, argTypes := ⟨[t]⟩ } => (tt t).bind fun i => (evalO L x).bind fun a => match i.k, a with
    | .slice _, .slice _ _ c => some c
    | _, _ => none
  | _ => none

theorem lenO_run {P : Program} {w : World} {tt : TypeId → Option TI} (ok : ∀ t i, tt t = some i → TIok P t i) {L : Env} {a : Act} {n : Nat} (ha : Agr n L a) {o : Oper} {m : Int}
    (h : lenO tt L o.op = some m) : (execOp a.eval o).run P w = .ok (.value (.int .i64 m)) w := by
  obtain ⟨dst, op, ty, pos, after, guard⟩ := o
  unfold lenO at h
  split at h
  · rename_i x t hop
    simp only at hop; subst hop
    cases ht : tt t with
    | none => simp [ht] at h
    | some i =>
      cases hx : evalO L x with
      | none => simp [ht, hx] at h
      | some v =>
        simp only [ht, hx, Option.bind_some] at h
        have hd := (ok t i ht).desc
        split at h
        · rename_i hk
          rw [hk] at hd
          simp only [Option.some.injEq] at h; subst h
          simp [execOp, resolve, invoke, builtin, Builtin.len_, ha.eval hx, run_underlying hd, goInt]
        · rename_i hk
          rw [hk] at hd
          simp only [Option.some.injEq] at h; subst h
          simp [execOp, resolve, invoke, builtin, Builtin.len_, ha.eval hx, run_underlying hd, goInt]
        · contradiction
  · rename_i x t hop
    simp only at hop; subst hop
    cases ht : tt t with
    | none => simp [ht] at h
    | some i =>
      cases hx : evalO L x with
      | none => simp [ht, hx] at h
      | some v =>
        simp only [ht, hx, Option.bind_some] at h
        have hd := (ok t i ht).desc
        split at h
        · rename_i hk
          rw [hk] at hd
          simp only [Option.some.injEq] at h; subst h
          simp [execOp, resolve, invoke, builtin, Builtin.cap_, ha.eval hx, run_underlying hd, goInt]
        · contradiction
  · contradiction

/-! ## The address of an element -/
/-- Of a slice, or of an array by its address: the block, the offset, how many, an element's cells, the index. -/
def ixO (tt : TypeId → Option TI) (L : Env) (o : Op) : Option (Nat × Nat × Nat × Nat × Int) :=
  match o with
  | .indexAddr t x ix => (tt t).bind fun i => (evalO L x).bind fun a => (evalO L ix).bind fun v => match i.k, a, v with
    | .slice e, .slice (some ⟨b, off, none⟩) n _, .int _ k => (tt e).map fun j => (b, off, n, j.size, k)
    | .arr n e, .pointer (some ⟨b, off, none⟩), .int _ k => (tt e).map fun j => (b, off, n, j.size, k)
    | _, _, _ => none
  | _ => none

theorem ixO_run {P : Program} {w : World} {tt : TypeId → Option TI} (ok : ∀ t i, tt t = some i → TIok P t i) {L : Env} {a : Act} {n : Nat} (ha : Agr n L a) {o : Oper} {b off m s : Nat} {k : Int}
    (h : ixO tt L o.op = some (b, off, m, s, k)) (h0 : 0 ≤ k) (hk : k < m) : (execOp a.eval o).run P w = .ok (.value (.pointer (some ⟨b, off + k.toNat * s, none⟩))) w := by
  obtain ⟨dst, op, ty, pos, after, guard⟩ := o
  unfold ixO at h
  split at h
  · rename_i t x ix hop
    simp only at hop; subst hop
    cases ht : tt t with
    | none => simp [ht] at h
    | some i =>
      cases hx : evalO L x with
      | none => simp [ht, hx] at h
      | some u =>
        cases hv : evalO L ix with
        | none => simp [ht, hx, hv] at h
        | some v =>
          simp only [ht, hx, hv, Option.bind_some] at h
          have hd := (ok t i ht).desc
          split at h
          · rename_i e b' off' n' c kk k' hk'
            rw [hk'] at hd
            cases he : tt e with
            | none => simp [he] at h
            | some j =>
              simp [he] at h
              obtain ⟨rfl, rfl, rfl, rfl, rfl⟩ := h
              simp [execOp, Instr.indexAt, ha.eval hx, ha.eval hv, asIntOf, run_underlying hd, h0, hk, run_sizeOf (ok e j he), Addr.add_none]
          · rename_i n' e b' off' kk k' hk'
            rw [hk'] at hd
            cases he : tt e with
            | none => simp [he] at h
            | some j =>
              simp [he] at h
              obtain ⟨rfl, rfl, rfl, rfl, rfl⟩ := h
              simp [execOp, Instr.indexAt, ha.eval hx, ha.eval hv, asIntOf, run_underlying hd, h0, hk, run_sizeOf (ok e j he), Addr.add_none, Instr.sureAddr]
          · contradiction
  · contradiction

/-- off + k * s, where a plain sum will do. -/
def offAt (off k : Nat) : Nat → Nat
  | 1 => off + k
  | s => off + k * s
theorem offAt_eq (off k s : Nat) : offAt off k s = off + k * s := by unfold offAt; split <;> simp

section
variable {p : Pg} {fn : Func} {rd : List HProp} {post : Post} {C : Ctx p fn rd post} {all : Array Oper} {l : List Oper} {K : List It} {L : Env} {H : List HProp}

theorem G.len {o : Oper} {d : Tmp} {m : Int} (hop : lenO p.tt L o.op = some m) (hg : guardV all L o.guard = some true) (hd : o.dst = some d) (hn : Nat.blt d fn.ntmps = true)
    (k : G C (.ops all l :: K) ((d, .int .i64 m) :: L) H) : G C (.ops all (o :: l) :: K) L H :=
  G.val1 hg hd (Nat.le_of_ble_eq_true hn) (fun _ w F ha hs hf => ⟨w, F, lenO_run p.ok ha hop, hs, hf⟩) k

/-- The index a natural number. -/
theorem G.ix {o : Oper} {d : Tmp} {b off m s k : Nat} (hop : ixO p.tt L o.op = some (b, off, m, s, .ofNat k)) (hg : guardV all L o.guard = some true) (hd : o.dst = some d) (hn : Nat.blt d fn.ntmps = true)
    (hk : k < m) (g : G C (.ops all l :: K) ((d, .pointer (some ⟨b, offAt off k s, none⟩)) :: L) H) : G C (.ops all (o :: l) :: K) L H := by
  refine G.val1 hg hd (Nat.le_of_ble_eq_true hn) (fun _ w F ha hs hf => ⟨w, F, ?_, hs, hf⟩) g
  rw [offAt_eq]
  exact ixO_run p.ok ha hop (Int.natCast_nonneg k) (by simpa using hk)
/-- The index a whole number. -/
theorem G.ixz {o : Oper} {d : Tmp} {b off m s : Nat} {k : Int} (j : Nat) (hop : ixO p.tt L o.op = some (b, off, m, s, k)) (hg : guardV all L o.guard = some true) (hd : o.dst = some d) (hn : Nat.blt d fn.ntmps = true)
    (hk : k = j) (hj : j < m) (g : G C (.ops all l :: K) ((d, .pointer (some ⟨b, offAt off j s, none⟩)) :: L) H) : G C (.ops all (o :: l) :: K) L H := by
  subst hk
  exact G.ix hop hg hd hn hj g

/-! ## Calls -/
def callO (L : Env) (o : Op) : Option (FuncId × List Value) :=
  match o with
  | .call { callee := .value x, args := xs, argTypes := _ } => (evalO L x).bind fun f => (evalOs L xs.toList).bind fun vs => match f with
    | .func (.func f) ⟨first⟩ ⟨cap⟩ => some (f, first ++ vs ++ cap)
    | _ => none
  | _ => none

theorem callO_run {P : Program} {w : World} {L : Env} {a : Act} {n : Nat} (ha : Agr n L a) {o : Oper} {f : FuncId} {vs : List Value} (hc : Callable P f)
    (h : callO L o.op = some (f, vs)) : (execOp a.eval o).run P w = .ok (.enter f vs.toArray) w := by
  obtain ⟨dst, op, ty, pos, after, guard⟩ := o
  unfold callO at h
  split at h
  · rename_i x xs ats hop
    simp only at hop; subst hop
    cases hx : evalO L x with
    | none => simp [hx] at h
    | some u =>
      cases hv : evalOs L xs.toList with
      | none => simp [hx, hv] at h
      | some us =>
        simp only [hx, hv, Option.bind_some] at h
        split at h
        · simp only [Option.some.injEq, Prod.mk.injEq] at h
          obtain ⟨rfl, rfl⟩ := h
          have e := evalO_map ha hv
          simp only [execOp, resolve, ha.eval hx, Deferred.ofValue, e]
          simp only [pure, Sem.bind, bind, invoke]
          have := hc
          simp [Callable] at this
          simp [this]
        · contradiction
  · contradiction

/-- What a callee may read: of what the caller reads, or of what he keeps. -/
class RdOk (C : Ctx p fn rd post) (H : List HProp) (r : HProp) : Prop where
  ok : ∀ w F Fk, Sat H w Fk → (∀ b, Fk b → F b) → Fr C.w0 C.F0 w F → ∃ S : Foot, r.holds w S ∧ (∀ b, S b → b < w.heap.size) ∧ ∀ b, S b → Fk b ∨ ¬ F b
class RdAll (C : Ctx p fn rd post) (H : List HProp) (rs : List HProp) : Prop where
  ok : ∀ r ∈ rs, RdOk C H r
instance RdAll.nil (C : Ctx p fn rd post) (H : List HProp) : RdAll C H [] := ⟨fun r hr => by cases hr⟩
instance RdAll.cons (C : Ctx p fn rd post) (H : List HProp) (r : HProp) (rs : List HProp) [h : RdOk C H r] [hs : RdAll C H rs] : RdAll C H (r :: rs) :=
  ⟨fun x hx => by
    rcases List.mem_cons.1 hx with e | hx
    · rw [e]; exact h
    · exact hs.ok x hx⟩

/-- A thing that is read, whole, out of the caller's own list. -/
theorem RdOk.mem {C : Ctx p fn rd post} {H : List HProp} {r : HProp} (h : r ∈ rd) : RdOk C H r := by
  refine ⟨fun w F Fk _ _ hf => ?_⟩
  obtain ⟨S, hr, hi, hfree⟩ := C.hrd r h
  refine ⟨S, r.loc C.w0 w S (fun b hb => hf.kept b (hi b hb) (hfree b hb)) hr, fun b hb => Nat.lt_of_lt_of_le (hi b hb) hf.size, fun b hb => .inr fun hF => hfree b hb (hf.own b hF (hi b hb))⟩
instance RdOk.own (C : Ctx p fn rd post) (H : List HProp) (r : HProp) (R : List HProp) [h : Rem H r R] : RdOk C H r := by
  refine ⟨fun w F Fk hs hF hf => ?_⟩
  obtain ⟨F1, F2, h1, _, _, ha, _⟩ := h.ent w Fk hs
  exact ⟨F1, h1, fun b hb => hf.inb b (hF b (ha b hb)), fun b hb => .inl (ha b hb)⟩
instance (priority := high) RdOk.pts (C : Ctx p fn rd post) (H : List HProp) (b : Nat) (cs : List Value) [h : HasPts H b cs] : RdOk C H (rdb b cs) := by
  refine ⟨fun w F Fk hs hF hf => ?_⟩
  obtain ⟨ho, hb⟩ := h.own w Fk hs
  exact ⟨fun c => c = b, ⟨rfl, ho.blk⟩, fun c hc => by subst hc; exact hf.inb _ (hF _ hb), fun c hc => by subst hc; exact .inl hb⟩
instance RdOk.blk (C : Ctx p fn rd post) (H : List HProp) (b : Nat) (cs : List Value) [h : RB C b cs] : RdOk C H (rdb b cs) := by
  refine ⟨fun w F Fk hs hF hf => ?_⟩
  obtain ⟨hb, hn⟩ := h.now hf
  exact ⟨fun c => c = b, ⟨rfl, hb⟩, fun c hc => by subst hc; exact hb.lt, fun c hc => by subst hc; exact .inr hn⟩

theorem G.call {o : Oper} {d : Tmp} {f : FuncId} {args : List Value} {rs X R : List HProp} {post' : Post} (hc : Fun p.P f args rs X post') (hop : callO L o.op = some (f, args)) (hg : guardV all L o.guard = some true)
    (hd : o.dst = some d) (hn : Nat.blt d fn.ntmps = true) [pk : Pick H X R] [ro : RdAll C R rs]
    (k : ∀ v H', post' v H' → G C (.ops all l :: K) ((d, v) :: L) (H' ++ R)) : G C (.ops all (o :: l) :: K) L H := by
  refine G.raw hg fun a w F ha hs hf => ?_
  obtain ⟨Fc, Fk, h1, h2, hdis, hFc, hFk⟩ := Sat.append.1 (pk.ent w F hs)
  have hrd : Rd rs w Fc := by
    intro r hr
    obtain ⟨S, hS, hi, hfree⟩ := (ro.ok r hr).ok w F Fk h2 hFk hf
    refine ⟨S, hS, hi, fun b hb hc' => ?_⟩
    rcases hfree b hb with h | h
    · exact hdis b hc' h
    · exact h (hFc b hc')
  simp only [Oper.wp, callO_run ha hc.callable hop, Oper.upon_enter]
  refine (hc.calls w Fc hrd h1 (fun b hb => hf.inb b (hFc b hb))).mono ?_
  rintro e w' ⟨v, H', F', rfl, hp, hs', hfr⟩
  obtain ⟨g1, g2, g3⟩ := hf.call hfr hFc hFk hdis
  simp only [hd]
  exact k v H' hp _ w' _ (ha.put (Nat.le_of_ble_eq_true hn) v) (Sat.append.2 ⟨F', Fk, hs', h2.loc g3, g2, fun b h => .inl h, fun b h => .inr h⟩) g1

/-- A call whose result nobody keeps. -/
theorem G.call0 {o : Oper} {f : FuncId} {args : List Value} {rs X R : List HProp} {post' : Post} (hc : Fun p.P f args rs X post') (hop : callO L o.op = some (f, args)) (hg : guardV all L o.guard = some true)
    (hd : o.dst = none) [pk : Pick H X R] [ro : RdAll C R rs] (k : ∀ v H', post' v H' → G C (.ops all l :: K) L (H' ++ R)) : G C (.ops all (o :: l) :: K) L H := by
  refine G.raw hg fun a w F ha hs hf => ?_
  obtain ⟨Fc, Fk, h1, h2, hdis, hFc, hFk⟩ := Sat.append.1 (pk.ent w F hs)
  have hrd : Rd rs w Fc := by
    intro r hr
    obtain ⟨S, hS, hi, hfree⟩ := (ro.ok r hr).ok w F Fk h2 hFk hf
    refine ⟨S, hS, hi, fun b hb hc' => ?_⟩
    rcases hfree b hb with h | h
    · exact hdis b hc' h
    · exact h (hFc b hc')
  simp only [Oper.wp, callO_run ha hc.callable hop, Oper.upon_enter]
  refine (hc.calls w Fc hrd h1 (fun b hb => hf.inb b (hFc b hb))).mono ?_
  rintro e w' ⟨v, H', F', rfl, hp, hs', hfr⟩
  obtain ⟨g1, g2, g3⟩ := hf.call hfr hFc hFk hdis
  simp only [hd]
  exact k v H' hp _ w' _ ha (Sat.append.2 ⟨F', Fk, hs', h2.loc g3, g2, fun b h => .inl h, fun b h => .inr h⟩) g1

/-- Two lists in a row, written as one. -/
class App (A B : List HProp) (D : outParam (List HProp)) : Prop where
  eq : A ++ B = D
instance App.nil (B : List HProp) : App [] B B := ⟨rfl⟩
instance App.cons (x : HProp) (A B D : List HProp) [h : App A B D] : App (x :: A) B (x :: D) := ⟨by rw [List.cons_append, h.eq]⟩
theorem G.app {A B D : List HProp} [h : App A B D] (g : G C K L D) : G C K L (A ++ B) := by rw [h.eq]; exact g
end
end Go.W

/- The steps under short names, what goes without saying by 'rfl'. -/
namespace Go.W
section
variable {p : Pg} {fn : Func} {rd : List HProp} {post : Post} {C : Ctx p fn rd post} {all : Array Oper} {l : List Oper} {K : List It} {L : Env} {H : List HProp}

theorem xenter {f : FuncId} {c : Code} {args : List Value} {L : Env} (hcall : Callable p.P f) (hf : p.P.funcs[f]? = some fn) (g : ∀ C : Ctx p fn rd post, G C [.code c] L H)
    (hL : envF 0 args = some L := by rfl) (hb : fn.body = some c := by rfl) (hn : Nat.ble args.length fn.ntmps = true := by rfl) : Fun p.P f args rd H post :=
  Fun.enter hcall hf hb (Nat.le_of_ble_eq_true hn) (by rw [← envF_eq hL]; exact g)
theorem xst {K' : List It} (g : G C K' L H) (h : stepI K = some K' := by rfl) : G C K L H := G.st h g
theorem xop {o : Oper} {d : Tmp} {v : Value} (k : G C (.ops all l :: K) ((d, v) :: L) H) (hv : opVal p.tt L o.op = some v := by rfl) (hg : guardV all L o.guard = some true := by rfl) (hd : o.dst = some d := by rfl)
    (hn : Nat.blt d fn.ntmps = true := by rfl) : G C (.ops all (o :: l) :: K) L H := G.op hv hg hd hn k
theorem xar {o : Oper} {d : Tmp} {n : Int} (g : G C (.ops all l :: K) ((d, .int .i64 n) :: L) H) (hv : opAr p.tt L o.op = some (.i64, n) := by rfl) (hk : -9223372036854775808 ≤ n ∧ n ≤ 9223372036854775807 := by omega)
    (hg : guardV all L o.guard = some true := by rfl) (hd : o.dst = some d := by rfl) (hn : Nat.blt d fn.ntmps = true := by rfl) : G C (.ops all (o :: l) :: K) L H := G.ari hv hk hg hd hn g
theorem xno {o : Oper} {d : Tmp} (k : G C (.ops all l :: K) ((d, undef) :: L) H) (hg : guardV all L o.guard = some false := by rfl) (hd : o.dst = some d := by rfl) (hn : Nat.blt d fn.ntmps = true := by rfl) :
    G C (.ops all (o :: l) :: K) L H := G.no hg hd hn k
theorem xlen {o : Oper} {d : Tmp} {m : Int} (k : G C (.ops all l :: K) ((d, .int .i64 m) :: L) H) (hop : lenO p.tt L o.op = some m := by rfl) (hg : guardV all L o.guard = some true := by rfl) (hd : o.dst = some d := by rfl)
    (hn : Nat.blt d fn.ntmps = true := by rfl) : G C (.ops all (o :: l) :: K) L H := G.len hop hg hd hn k
theorem xld {o : Oper} {d : Tmp} {v : Value} {b off : Nat} {i : TI} {cs : List Value} (hop : ldO p.tt L o.op = some (b, off, i)) (k : G C (.ops all l :: K) ((d, v) :: L) H) [hb : Blk C H b cs] (hg : guardV all L o.guard = some true := by rfl)
    (hd : o.dst = some d := by rfl) (hn : Nat.blt d fn.ntmps = true := by rfl) (hv : partF i cs off = some v := by rfl) : G C (.ops all (o :: l) :: K) L H := G.ld hop hg hd hn hv k
theorem xsto {o : Oper} {b off : Nat} {cs m m' : List Value} {mk : List Value → List HProp} (hop : stO p.tt L o.op = some (b, off, cs)) (k : G C (.ops all l :: K) L (mk m')) [hb : Upd H b m mk] (hg : guardV all L o.guard = some true := by rfl)
    (hd : o.dst = none := by rfl) (hm : putF off cs m = some m' := by rfl) : G C (.ops all (o :: l) :: K) L H := G.sto hop hg hd hm k
theorem xnew {o : Oper} {d : Tmp} {cs : List Value} (k : ∀ b, G C (.ops all l :: K) ((d, .pointer (some ⟨b, 0, none⟩)) :: L) (pts b cs :: H)) (hop : newO p.tt L o.op = some cs := by rfl) (hg : guardV all L o.guard = some true := by rfl)
    (hd : o.dst = some d := by rfl) (hn : Nat.blt d fn.ntmps = true := by rfl) : G C (.ops all (o :: l) :: K) L H := G.new hop hg hd hn k
theorem xbsl {o : Oper} {d : Tmp} {n : Nat} {cs : List Value} (k : ∀ b, G C (.ops all l :: K) ((d, .slice (some ⟨b, 0, none⟩) n n) :: L) (pts b cs :: H)) (hop : bslO p.tt L o.op = some (n, cs) := by rfl) (hg : guardV all L o.guard = some true := by rfl)
    (hd : o.dst = some d := by rfl) (hn : Nat.blt d fn.ntmps = true := by rfl) : G C (.ops all (o :: l) :: K) L H := G.bsl hop hg hd hn k
theorem xix {o : Oper} {d : Tmp} {b off m s k : Nat} (g : G C (.ops all l :: K) ((d, .pointer (some ⟨b, offAt off k s, none⟩)) :: L) H) (hop : ixO p.tt L o.op = some (b, off, m, s, .ofNat k) := by rfl) (hg : guardV all L o.guard = some true := by rfl)
    (hd : o.dst = some d := by rfl) (hn : Nat.blt d fn.ntmps = true := by rfl) (hk : k < m := by omega) : G C (.ops all (o :: l) :: K) L H := G.ix hop hg hd hn hk g
theorem xt {c : Operand} {x y : Code} (g : G C (.code x :: K) L H) (h : evalO L c = some (.bool true) := by rfl) : G C (.code (.cond c x y) :: K) L H := G.ift h g
theorem xf {c : Operand} {x y : Code} (g : G C (.code y :: K) L H) (h : evalO L c = some (.bool false) := by rfl) : G C (.code (.cond c x y) :: K) L H := G.iff h g
theorem xd {c : Operand} {x y : Code} {q : Prop} [Decidable q] (g1 : q → G C (.code x :: K) L H) (g2 : ¬ q → G C (.code y :: K) L H) (h : evalO L c = some (.bool (decide q)) := by rfl) : G C (.code (.cond c x y) :: K) L H := G.ifd h g1 g2
theorem xb {c : Operand} {x y : Code} {b : Bool} (g1 : b = true → G C (.code x :: K) L H) (g2 : b = false → G C (.code y :: K) L H) (h : evalO L c = some (.bool b) := by rfl) : G C (.code (.cond c x y) :: K) L H := G.ifb h g1 g2
/-- A test of which the way is known. -/
theorem xy {c : Operand} {x y : Code} {q : Prop} [Decidable q] (hq : q) (g : G C (.code x :: K) L H) (h : evalO L c = some (.bool (decide q)) := by rfl) : G C (.code (.cond c x y) :: K) L H := G.ifd h (fun _ => g) (fun n => (n hq).elim)
theorem xn {c : Operand} {x y : Code} {q : Prop} [Decidable q] (hq : ¬ q) (g : G C (.code y :: K) L H) (h : evalO L c = some (.bool (decide q)) := by rfl) : G C (.code (.cond c x y) :: K) L H := G.ifd h (fun n => (hq n).elim) (fun _ => g)
/-- A Bool in a slot (a guard): both ways. -/
theorem xbc (d : Nat) {q : Prop} [Decidable q] (k1 : q → G C K ((d, .bool true) :: L) H) (k2 : ¬ q → G C K ((d, .bool false) :: L) H) (hl : look L d = some (.bool (decide q)) := by rfl) : G C K L H :=
  G.bcase d hl (fun h => k1 (of_decide_eq_true h)) (fun h => k2 (of_decide_eq_false h))
theorem xbb (d : Nat) {b : Bool} (k1 : b = true → G C K ((d, .bool true) :: L) H) (k2 : b = false → G C K ((d, .bool false) :: L) H) (hl : look L d = some (.bool b) := by rfl) : G C K L H := G.bcase d hl k1 k2
theorem xcall {o : Oper} {d : Tmp} {f : FuncId} {args : List Value} {rs X R : List HProp} {post' : Post} (hc : Fun p.P f args rs X post') (k : ∀ v H', post' v H' → G C (.ops all l :: K) ((d, v) :: L) (H' ++ R))
    (hop : callO L o.op = some (f, args) := by rfl) (hg : guardV all L o.guard = some true := by rfl) (hd : o.dst = some d := by rfl) (hn : Nat.blt d fn.ntmps = true := by rfl) [pk : Pick H X R] [ro : RdAll C R rs] : G C (.ops all (o :: l) :: K) L H :=
  G.call hc hop hg hd hn k
theorem xret {R : List HProp} {rs : List ResultVar} {vs : List Value} (H' : List HProp) (hp : post (resV vs) H') (hr : fn.results = rs.toArray := by rfl) (hv : resO L rs = some vs := by rfl) [pk : Pick H H' R] : G C (.code .ret :: K) L H :=
  G.ret hr hv H' hp pk.toEnt
theorem xdone {R : List HProp} {rs : List ResultVar} {vs : List Value} (H' : List HProp) (hp : post (resV vs) H') (hr : fn.results = rs.toArray := by rfl) (hv : resO L rs = some vs := by rfl) [pk : Pick H H' R] : G C [] L H :=
  G.done hr hv H' hp pk.toEnt
/-- A slot's value under another spelling. -/
theorem xE (d : Nat) {v : Value} (u : Value) (hl : look L d = some v) (he : v = u) (k : G C K ((d, u) :: L) H) : G C K L H := by
  subst he
  refine fun a w F ha hs hf => k a w F ⟨ha.size, ha.defers, fun t x ht => ?_⟩ hs hf
  simp only [look] at ht
  cases hb : Nat.beq t d with
  | true => rw [hb] at ht; simp at ht; subst ht; rw [beq_true hb]; exact ha.cell _ _ hl
  | false => rw [hb] at ht; simp at ht; exact ha.cell _ _ ht
end
end Go.W

/- Slices as lists: owned, or read. append, make, copy, and pieces of a slice. -/
namespace Go.W

/-! ## A slice's cells -/
/-- The slice (a, n, cap) of elements of 'sz' cells holds 'xs'; 'at_' says what is so of its block. -/
def viewOf (at_ : Nat → List Value → Prop) (sz : Nat) (a : Option Addr) (n cap : Nat) (xs : List Value) : Prop :=
  xs.length = n * sz ∧ n ≤ cap ∧ match a with
    | none => cap = 0
    | some ad => ad.spot = none ∧ ∃ pre rest, pre.length = ad.off ∧ at_ ad.block (pre ++ (xs ++ rest)) ∧ cap * sz ≤ xs.length + rest.length

/-- An owned slice. -/
def sl (sz : Nat) (a : Option Addr) (n cap : Nat) (xs : List Value) : HProp where
  holds w F := viewOf (fun b l => F b ∧ ownAt w b l) sz a n cap xs
  loc w w' F hw := by
    rintro ⟨h1, h2, h3⟩
    refine ⟨h1, h2, ?_⟩
    cases a with
    | none => exact h3
    | some ad =>
      obtain ⟨hs, pre, rest, hp, ⟨hb, T, lo, hi, h, hf⟩, hc⟩ := h3
      exact ⟨hs, pre, rest, hp, ⟨hb, T, lo, hi, by rw [hw _ hb]; exact h, hf⟩, hc⟩
  up w F F' hF := by
    rintro ⟨h1, h2, h3⟩
    refine ⟨h1, h2, ?_⟩
    cases a with
    | none => exact h3
    | some ad =>
      obtain ⟨hs, pre, rest, hp, ⟨hb, h⟩, hc⟩ := h3
      exact ⟨hs, pre, rest, hp, ⟨hF _ hb, h⟩, hc⟩

theorem viewOf.mono {p q : Nat → List Value → Prop} (h : ∀ b l, p b l → q b l) {sz : Nat} {a : Option Addr} {n cap : Nat} {xs : List Value} : viewOf p sz a n cap xs → viewOf q sz a n cap xs := by
  rintro ⟨h1, h2, h3⟩
  refine ⟨h1, h2, ?_⟩
  cases a with
  | none => exact h3
  | some ad => obtain ⟨hs, pre, rest, hp, hb, hc⟩ := h3; exact ⟨hs, pre, rest, hp, h _ _ hb, hc⟩

/-- A view; of no room nothing is said of the place. -/
def viewR (at_ : Nat → List Value → Prop) (sz : Nat) (a : Option Addr) (n cap : Nat) (xs : List Value) : Prop :=
  viewOf at_ sz a n cap xs ∨ (n = 0 ∧ cap = 0 ∧ xs = [])
theorem viewR.mono {p q : Nat → List Value → Prop} (h : ∀ b l, p b l → q b l) {sz : Nat} {a : Option Addr} {n cap : Nat} {xs : List Value} : viewR p sz a n cap xs → viewR q sz a n cap xs
  | .inl h' => .inl (h'.mono h)
  | .inr h' => .inr h'
theorem viewR.len {p : Nat → List Value → Prop} {sz : Nat} {a : Option Addr} {n cap : Nat} {xs : List Value} : viewR p sz a n cap xs → xs.length = n * sz ∧ n ≤ cap
  | .inl h => ⟨h.1, h.2.1⟩
  | .inr ⟨h1, h2, h3⟩ => by subst h1; subst h2; subst h3; simp

/-- A slice that is read. -/
def slR (sz : Nat) (a : Option Addr) (n cap : Nat) (xs : List Value) : HProp where
  holds w F := viewR (fun b l => F b ∧ blkAt w b l) sz a n cap xs
  loc w w' F hw := viewR.mono (fun b l ⟨hb, T, fr, h⟩ => ⟨hb, T, fr, by rw [hw b hb]; exact h⟩)
  up w F F' hF := viewR.mono (fun b l ⟨hb, h⟩ => ⟨hF b hb, h⟩)

/-- Where a piece begins. -/
def subA (a : Option Addr) (k sz cap : Nat) : Option Addr := if cap = k then a else a.map (·.add (k * sz))

theorem viewOf.sub {p : Nat → List Value → Prop} {sz : Nat} {a : Option Addr} {n cap : Nat} {xs : List Value} (h : viewOf p sz a n cap xs) {k m : Nat} (hk : k ≤ m) (hm : m ≤ n) :
    viewOf p sz (subA a k sz cap) (m - k) (cap - k) ((xs.drop (k * sz)).take ((m - k) * sz)) := by
  obtain ⟨h1, h2, h3⟩ := h
  have hms : (m - k) * sz = m * sz - k * sz := Nat.sub_mul _ _ _
  have hle : m * sz ≤ n * sz := Nat.mul_le_mul_right _ hm
  have hlk : k * sz ≤ m * sz := Nat.mul_le_mul_right _ hk
  refine ⟨by simp [h1]; omega, by omega, ?_⟩
  have hcs : (cap - k) * sz = cap * sz - k * sz := Nat.sub_mul _ _ _
  cases a with
  | none =>
    simp only at h3
    have : subA none k sz cap = none := by unfold subA; split <;> rfl
    rw [this]
    simp only; omega
  | some ad =>
    obtain ⟨hs, pre, rest, hp, hb, hc⟩ := h3
    by_cases he : cap = k
    · rw [show subA (some ad) k sz cap = some ad by simp [subA, he]]
      have e0 : m = k := by omega
      subst e0
      exact ⟨hs, pre, xs ++ rest, hp, by simpa using hb, by simp [he]⟩
    · rw [show subA (some ad) k sz cap = some (ad.add (k * sz)) by simp [subA, he]]
      obtain ⟨b, off, spot⟩ := ad
      simp only at hs hp hb
      subst hs
      rw [Addr.add_none]
      refine ⟨rfl, pre ++ xs.take (k * sz), xs.drop (m * sz) ++ rest, ?_, ?_, ?_⟩
      · rw [List.length_append, List.length_take, h1, hp, Nat.min_eq_left (by omega)]
      · have e : xs = xs.take (k * sz) ++ ((xs.drop (k * sz)).take ((m - k) * sz) ++ xs.drop (m * sz)) := by
          rw [hms]
          conv => lhs; rw [← List.take_append_drop (k * sz) xs, ← List.take_append_drop (m * sz - k * sz) (xs.drop (k * sz)), List.drop_drop]
          rw [show k * sz + (m * sz - k * sz) = m * sz by omega]
        have : pre ++ (xs ++ rest) = pre ++ xs.take (k * sz) ++ ((xs.drop (k * sz)).take ((m - k) * sz) ++ (xs.drop (m * sz) ++ rest)) := by
          conv => lhs; rw [e]
          simp only [List.append_assoc]
        rw [← this]; exact hb
      · simp [h1]; omega

/-- The cells of a view, loaded. -/
theorem viewOf.cells {P : Program} {w : World} {p : Nat → List Value → Prop} (hp : ∀ b l, p b l → blkAt w b l) {sz : Nat} {a : Option Addr} {n cap : Nat} {xs : List Value} (h : viewOf p sz a n cap xs) {m : Nat} (hm : m ≤ n) :
    (Builtin.firstCells sz m (.slice a n cap)).run P w = .ok (xs.take (m * sz)).toArray w := by
  obtain ⟨h1, h2, h3⟩ := h
  have hle : m * sz ≤ n * sz := Nat.mul_le_mul_right _ hm
  cases a with
  | none =>
    simp only at h3
    have : n = 0 := by omega
    subst this
    have e : xs = [] := by simpa using h1
    subst e
    simp [Builtin.firstCells]
  | some ad =>
    obtain ⟨hs, pre, rest, hpre, hb, hc⟩ := h3
    obtain ⟨b, off, spot⟩ := ad
    simp only at hs hpre hb
    subst hs
    have hb := hp _ _ hb
    simp only [Builtin.firstCells]
    have := loadCells_run (P := P) hb off (m * sz) (by simp [h1, hpre]; omega)
    rw [this, ← hpre, List.drop_left, List.take_append_of_le_length (by omega)]

theorem viewR.sub {p : Nat → List Value → Prop} {sz : Nat} {a : Option Addr} {n cap : Nat} {xs : List Value} (h : viewR p sz a n cap xs) {k m : Nat} (hk : k ≤ m) (hm : m ≤ n) :
    viewR p sz (subA a k sz cap) (m - k) (cap - k) ((xs.drop (k * sz)).take ((m - k) * sz)) := by
  rcases h with h | ⟨h1, h2, h3⟩
  · exact .inl (h.sub hk hm)
  · subst h1; subst h2; subst h3
    exact .inr ⟨by omega, by omega, by simp⟩
theorem viewR.cells {P : Program} {w : World} {p : Nat → List Value → Prop} (hp : ∀ b l, p b l → blkAt w b l) {sz : Nat} {a : Option Addr} {n cap : Nat} {xs : List Value} (h : viewR p sz a n cap xs) {m : Nat} (hm : m ≤ n) :
    (Builtin.firstCells sz m (.slice a n cap)).run P w = .ok (xs.take (m * sz)).toArray w := by
  rcases h with h | ⟨h1, h2, h3⟩
  · exact h.cells hp hm
  · subst h1; subst h2; subst h3
    obtain rfl : m = 0 := by omega
    cases a <;> simp [Builtin.firstCells, loadCells, loadCellsFrom]

section
variable {p : Pg} {fn : Func} {rd : List HProp} {post : Post} {C : Ctx p fn rd post} {all : Array Oper} {l : List Oper} {K : List It} {L : Env} {H : List HProp}

/-- A slice that was there and is only read: as a fact. -/
class RS (C : Ctx p fn rd post) (sz : Nat) (a : Option Addr) (n cap : Nat) (xs : List Value) : Prop where
  view : viewR (fun b l => blkAt C.w0 b l ∧ ¬ C.F0 b) sz a n cap xs

theorem RS.of (C : Ctx p fn rd post) {sz : Nat} {a : Option Addr} {n cap : Nat} {xs : List Value} (h : slR sz a n cap xs ∈ rd) : RS C sz a n cap xs := by
  obtain ⟨S, hs, _, hf⟩ := C.hrd _ h
  have hs : viewR (fun b l => S b ∧ blkAt C.w0 b l) sz a n cap xs := hs
  exact ⟨viewR.mono (fun b l h => ⟨h.2, hf b h.1⟩) hs⟩
theorem RS.len {C : Ctx p fn rd post} {sz : Nat} {a : Option Addr} {n cap : Nat} {xs : List Value} (h : RS C sz a n cap xs) : xs.length = n * sz ∧ n ≤ cap := h.view.len
/-- Where there is an element, there is a block. -/
theorem RS.blk {C : Ctx p fn rd post} {sz : Nat} {a : Option Addr} {n cap : Nat} {xs : List Value} (h : RS C sz a n cap xs) (hn : 0 < n) :
    ∃ b off pre rest, a = some ⟨b, off, none⟩ ∧ pre.length = off ∧ RB C b (pre ++ (xs ++ rest)) := by
  obtain ⟨h1, h2, h3⟩ : viewOf (fun b l => blkAt C.w0 b l ∧ ¬ C.F0 b) sz a n cap xs := by
    rcases h.view with h | ⟨h, _⟩
    · exact h
    · omega
  cases a with
  | none => simp only at h3; omega
  | some ad =>
    obtain ⟨hs, pre, rest, hp, hb, hc⟩ := h3
    obtain ⟨b, off, spot⟩ := ad
    simp only at hs hp hb
    subst hs
    exact ⟨b, off, pre, rest, rfl, hp, ⟨hb.1, hb.2⟩⟩
theorem RS.sub {C : Ctx p fn rd post} {sz : Nat} {a : Option Addr} {n cap : Nat} {xs : List Value} (h : RS C sz a n cap xs) {k m : Nat} (hk : k ≤ m) (hm : m ≤ n) :
    RS C sz (subA a k sz cap) (m - k) (cap - k) ((xs.drop (k * sz)).take ((m - k) * sz)) := ⟨h.view.sub hk hm⟩
theorem RS.now {C : Ctx p fn rd post} {sz : Nat} {a : Option Addr} {n cap : Nat} {xs : List Value} (h : RS C sz a n cap xs) {w : World} {F : Foot} (hf : Fr C.w0 C.F0 w F) :
    viewR (fun b l => blkAt w b l ∧ ¬ F b ∧ b < w.heap.size) sz a n cap xs := by
  refine viewR.mono ?_ h.view
  intro b l ⟨hb, hF⟩
  have := RB.now (C := C) ⟨hb, hF⟩ hf
  exact ⟨this.1, this.2, this.1.lt⟩
instance RdOk.rs (C : Ctx p fn rd post) (H : List HProp) (sz : Nat) (a : Option Addr) (n cap : Nat) (xs : List Value) [h : RS C sz a n cap xs] : RdOk C H (slR sz a n cap xs) := by
  refine ⟨fun w F Fk hs hF hf => ?_⟩
  have hv := h.now hf
  have hv' : viewR (fun b l => (b < w.heap.size ∧ ¬ F b) ∧ blkAt w b l) sz a n cap xs := viewR.mono (fun b l hb => ⟨⟨hb.2.2, hb.2.1⟩, hb.1⟩) hv
  exact ⟨fun b => b < w.heap.size ∧ ¬ F b, hv', fun b hb => hb.1, fun b hb => .inr hb.2⟩
instance (priority := high) RdOk.slo (C : Ctx p fn rd post) (H : List HProp) (sz : Nat) (a : Option Addr) (n cap : Nat) (xs : List Value) (R : List HProp) [h : Rem H (sl sz a n cap xs) R] : RdOk C H (slR sz a n cap xs) := by
  refine ⟨fun w F Fk hs hF hf => ?_⟩
  obtain ⟨F1, F2, h1, _, _, ha, _⟩ := h.ent w Fk hs
  have h1 : viewOf (fun b l => F1 b ∧ ownAt w b l) sz a n cap xs := h1
  have h1' : viewOf (fun b l => F1 b ∧ blkAt w b l) sz a n cap xs := viewOf.mono (fun b l hb => ⟨hb.1, hb.2.blk⟩) h1
  exact ⟨F1, .inl h1', fun b hb => hf.inb b (hF b (ha b hb)), fun b hb => .inl (ha b hb)⟩

/-- What is known of an owned slice. -/
theorem G.slf {sz : Nat} {a : Option Addr} {n cap : Nat} {xs : List Value} {R : List HProp} [pk : Rem H (sl sz a n cap xs) R]
    (k : xs.length = n * sz → n ≤ cap → (0 < cap → ∃ b off, a = some ⟨b, off, none⟩) → G C K L H) : G C K L H := by
  intro a' w F ha hs hf
  obtain ⟨F1, F2, h1, _⟩ := pk.ent w F hs
  obtain ⟨h1, h2, h3⟩ := h1
  refine k h1 h2 (fun hc => ?_) a' w F ha hs hf
  cases a with
  | none => simp only at h3; omega
  | some ad =>
    obtain ⟨hs', _⟩ := h3
    obtain ⟨b, off, spot⟩ := ad
    simp only at hs'; subst hs'
    exact ⟨b, off, rfl⟩

/-- An owned slice, as its block. -/
theorem G.slo {sz b off n cap : Nat} {xs : List Value} {R : List HProp} [pk : Rem H (sl sz (some ⟨b, off, none⟩) n cap xs) R]
    (k : ∀ pre rest, pre.length = off → cap * sz ≤ xs.length + rest.length → G C K L (pts b (pre ++ (xs ++ rest)) :: R)) : G C K L H := by
  intro a' w F ha hs hf
  obtain ⟨F1, F2, ⟨h1, h2, _, pre, rest, hp, ⟨hb, ho⟩, hc⟩, hR, hd, hF1, hF2⟩ := pk.ent w F hs
  exact k pre rest hp hc a' w F ha ⟨F1, F2, ⟨hb, ho⟩, hR, hd, hF1, hF2⟩ hf
/-- A block, as an owned slice. -/
theorem G.slc (sz b off n cap : Nat) (xs pre rest : List Value) {cs : List Value} {R : List HProp} [pk : Rem H (pts b cs) R] (hl : cs = pre ++ (xs ++ rest)) (hp : pre.length = off) (hx : xs.length = n * sz) (hn : n ≤ cap)
    (hc : cap * sz ≤ xs.length + rest.length) (k : G C K L (sl sz (some ⟨b, off, none⟩) n cap xs :: R)) : G C K L H := by
  intro a' w F ha hs hf
  obtain ⟨F1, F2, h1, hR, hd, hF1, hF2⟩ := pk.ent w F hs
  refine k a' w F ha ⟨F1, F2, ⟨hx, hn, rfl, pre, rest, hp, ?_, hc⟩, hR, hd, hF1, hF2⟩ hf
  rw [← hl]; exact h1
theorem slc_ent (sz b n : Nat) (cs : List Value) (hx : cs.length = n * sz) (H : List HProp) : Ent (pts b cs :: H) (sl sz (some ⟨b, 0, none⟩) n n cs :: H) := by
  intro w F hs
  obtain ⟨F1, F2, h1, hR, hd, hF1, hF2⟩ := hs
  have h1 : F1 b ∧ ownAt w b cs := h1
  exact ⟨F1, F2, ⟨hx, Nat.le_refl _, rfl, [], [], rfl, by simpa using h1, by simp [hx]⟩, hR, hd, hF1, hF2⟩
/-- A nil slice is owned by whoever wants it. -/
theorem G.sln (sz : Nat) (k : G C K L (sl sz none 0 0 [] :: H)) : G C K L H := by
  intro a' w F ha hs hf
  exact k a' w F ha ⟨fun _ => False, F, ⟨by simp, Nat.le_refl _, rfl⟩, hs, fun _ h => h.elim, fun _ h => h.elim, fun _ h => h⟩ hf
theorem sln_ent (sz : Nat) (H : List HProp) : Ent H (sl sz none 0 0 [] :: H) :=
  fun _ F hs => ⟨fun _ => False, F, ⟨by simp, Nat.le_refl _, rfl⟩, hs, fun _ h => h.elim, fun _ h => h.elim, fun _ h => h⟩
/-- A piece of an owned slice, in its place. -/
theorem G.sls {sz : Nat} {a : Option Addr} {n cap : Nat} {xs : List Value} {R : List HProp} [pk : Rem H (sl sz a n cap xs) R] (k m : Nat) (hk : k ≤ m) (hm : m ≤ n)
    (g : G C K L (sl sz (subA a k sz cap) (m - k) (cap - k) ((xs.drop (k * sz)).take ((m - k) * sz)) :: R)) : G C K L H := by
  intro a' w F ha hs hf
  obtain ⟨F1, F2, h1, hR, hd, hF1, hF2⟩ := pk.ent w F hs
  have h1 : viewOf (fun b l => F1 b ∧ ownAt w b l) sz a n cap xs := h1
  exact g a' w F ha ⟨F1, F2, h1.sub hk hm, hR, hd, hF1, hF2⟩ hf

/-! ## Pieces -/
def optI (L : Env) : Option Operand → Int → Option Int
  | none, dflt => some dflt
  | some x, _ => match evalO L x with
    | some (.int _ k) => some k
    | _ => none

/-- A piece of a slice: the slice, an element's cells, from where, to where. -/
def slcO (tt : TypeId → Option TI) (L : Env) (o : Op) : Option (Option Addr × Nat × Nat × Nat × Int × Int) :=
  match o with
  | .slice t x lo hi none => match tt t with
    | some i => match i.k, evalO L x with
      | .slice e, some (.slice a n c) => match tt e, optI L lo 0, optI L hi n with
        | some j, some lo, some hi => some (a, n, c, j.size, lo, hi)
        | _, _, _ => none
      | .arr n e, some (.pointer (some ⟨b, off, none⟩)) => match tt e, optI L lo 0, optI L hi n with
        | some j, some lo, some hi => some (some ⟨b, off, none⟩, n, n, j.size, lo, hi)
        | _, _, _ => none
      | _, _ => none
    | none => none
  | _ => none

theorem bound_run {P : Program} {w : World} {k : IntKind} {x : Int} {y : Nat} {code : BoundsCode} (h0 : 0 ≤ x) (h1 : x ≤ y) : (Instr.sliceBound (.int k x) y code).run P w = .ok x.toNat w := by
  simp [Instr.sliceBound, asIntOf, h0, h1]

theorem slcO_run {P : Program} {w : World} {tt : TypeId → Option TI} (ok : ∀ t i, tt t = some i → TIok P t i) {L : Env} {a : Act} {n : Nat} (ha : Agr n L a) {o : Oper} {ad : Option Addr} {len cap sz lo hi : Nat}
    (h : slcO tt L o.op = some (ad, len, cap, sz, (lo : Int), (hi : Int))) (h1 : lo ≤ hi) (h2 : hi ≤ cap) : (execOp a.eval o).run P w = .ok (.value (.slice (subA ad lo sz cap) (hi - lo) (cap - lo))) w := by
  obtain ⟨dst, op, ty, pos, after, guard⟩ := o
  unfold slcO at h
  split at h
  · rename_i t x lo' hi' hop
    simp only at hop; subst hop
    cases ht : tt t with
    | none => simp [ht] at h
    | some i =>
      have hd := (ok t i ht).desc
      simp only [ht] at h
      have low : ∀ (b : Bool) (m c : Nat), optI L lo' 0 = some (lo : Int) → optI L hi' m = some (hi : Int) → hi ≤ c → c = cap →
          (Instr.sliceBounds b m c (lo'.map a.eval) (hi'.map a.eval) none).run P w = .ok (lo, hi, c) w := by
        intro b m c e1 e2 e3 e4
        have hh : ∀ y, hi' = some y → ∀ code, (Instr.sliceBound (a.eval y) c code).run P w = .ok hi w := by
          rintro y rfl code
          simp only [optI] at e2
          split at e2
          · rename_i k' z hy
            simp only [Option.some.injEq] at e2; subst e2
            rw [ha.eval hy, bound_run (by omega) (by omega)]; simp
          · contradiction
        have hl : ∀ y, lo' = some y → ∀ code, (Instr.sliceBound (a.eval y) hi code).run P w = .ok lo w := by
          rintro y rfl code
          simp only [optI] at e1
          split at e1
          · rename_i k' z hy
            simp only [Option.some.injEq] at e1; subst e1
            rw [ha.eval hy, bound_run (by omega) (by omega)]; simp
          · contradiction
        cases hi' with
        | none =>
          have e2 : m = hi := by simp [optI] at e2; omega
          subst e2
          cases lo' with
          | none => have e1 : lo = 0 := by simp [optI] at e1; omega
                    subst e1; simp [Instr.sliceBounds]
          | some y => simp [Instr.sliceBounds, hl y rfl]
        | some z =>
          cases lo' with
          | none => have e1 : lo = 0 := by simp [optI] at e1; omega
                    subst e1; simp [Instr.sliceBounds, hh z rfl]
          | some y => simp [Instr.sliceBounds, hl y rfl, hh z rfl]
      split at h
      · rename_i e a' n' c' hk hx
        rw [hk] at hd
        split at h
        · rename_i j lo'' hi'' he el eh
          simp only [Option.some.injEq, Prod.mk.injEq] at h
          obtain ⟨rfl, rfl, rfl, rfl, rfl, rfl⟩ := h
          have := low true n' c' el eh h2 rfl
          simp only [execOp, Instr.sliceAt, Instr.slice, ha.eval hx]
          rw [run_bind_ok (a := .slice (subA a' lo j.size c') (hi - lo) (c' - lo)) (w' := w)]
          · rfl
          · rw [run_bind_ok (run_underlying hd)]
            simp only []
            rw [run_bind_ok (run_underlying hd)]
            simp only [Option.map_none]
            rw [run_bind_ok this]
            simp only []
            rw [run_bind_ok (run_sizeOf (ok e j he))]
            rfl
        · contradiction
      · rename_i n' e b off hk hx
        rw [hk] at hd
        split at h
        · rename_i j lo'' hi'' he el eh
          simp only [Option.some.injEq, Prod.mk.injEq] at h
          obtain ⟨rfl, rfl, rfl, rfl, rfl, rfl⟩ := h
          have := low false n' n' el eh h2 rfl
          simp only [execOp, Instr.sliceAt, ha.eval hx]
          rw [run_bind_ok (a := .slice (subA (some ⟨b, off, none⟩) lo j.size n') (hi - lo) (n' - lo)) (w' := w)]
          · rfl
          · rw [run_bind_ok (run_underlying hd)]
            simp only [Option.map_none]
            rw [run_bind_ok (a := ⟨b, off, none⟩) (w' := w) rfl, run_bind_ok this]
            simp only []
            rw [run_bind_ok (run_sizeOf (ok e j he))]
            unfold subA
            split <;> rfl
        · contradiction
      · contradiction
  · contradiction

/-- x[lo:hi]. -/
theorem G.slice {o : Oper} {d : Tmp} {ad : Option Addr} {len cap sz : Nat} {lo' hi' : Int} (lo hi : Nat) (hop : slcO p.tt L o.op = some (ad, len, cap, sz, lo', hi')) (h1 : lo' = lo) (h2 : hi' = hi) (h3 : lo ≤ hi) (h4 : hi ≤ cap)
    (hg : guardV all L o.guard = some true) (hd : o.dst = some d) (hn : Nat.blt d fn.ntmps = true)
    (k : G C (.ops all l :: K) ((d, .slice (subA ad lo sz cap) (hi - lo) (cap - lo)) :: L) H) : G C (.ops all (o :: l) :: K) L H := by
  subst h1; subst h2
  exact G.val1 hg hd (Nat.le_of_ble_eq_true hn) (fun _ w F ha hs hf => ⟨w, F, slcO_run p.ok ha hop h3 h4, hs, hf⟩) k
end
end Go.W

/- append, make, copy. -/
namespace Go.W

/-! ## append -/
structure Ap where
  a : Option Addr
  n : Nat
  cap : Nat
  elem : TI
  src : Value

def apO (tt : TypeId → Option TI) (L : Env) (o : Op) : Option Ap :=
  match o with
  | .call { callee := .builtin .append, args := ⟨[x, y]⟩, argTypes := ⟨[tx, ty]⟩ } => match tt tx, tt ty, evalO L x, evalO L y with
    | some i, some i', some (.slice a n c), some src => match i.k with
      | .slice e => match tt e with
        | some j => match i'.k with
          | .slice _ => bif Nat.beq j.zero.length j.size then (bif Nat.blt 0 j.bytes then some ⟨a, n, c, j, src⟩ else none) else none
          | .string => bif Nat.beq j.zero.length j.size then (bif Nat.blt 0 j.bytes then some ⟨a, n, c, j, src⟩ else none) else none
          | _ => none
        | none => none
      | _ => none
    | _, _, _, _ => none
  | _ => none

theorem apO_inv {P : Program} {tt : TypeId → Option TI} (ok : ∀ t i, tt t = some i → TIok P t i) {L : Env} {o : Op} {q : Ap} (h : apO tt L o = some q) :
    ∃ x y tx ty e, o = .call { callee := .builtin .append, args := #[x, y], argTypes := #[tx, ty] } ∧ evalO L x = some (.slice q.a q.n q.cap) ∧ evalO L y = some q.src ∧ P.underlying tx = some (.slice e) ∧ TIok P e q.elem ∧
      ((∃ e', P.underlying ty = some (.slice e')) ∨ P.underlying ty = some .string) ∧ q.elem.zero.length = q.elem.size ∧ 0 < q.elem.bytes := by
  unfold apO at h
  split at h
  · rename_i x y tx ty
    split at h
    · rename_i i i' a n c src htx hty hx hy
      split at h
      · rename_i e hk
        split at h
        · rename_i j he
          have fin : (bif Nat.beq j.zero.length j.size then (bif Nat.blt 0 j.bytes then some (⟨a, n, c, j, src⟩ : Ap) else none) else none) = some q → ((∃ e', P.underlying ty = some (.slice e')) ∨ P.underlying ty = some .string) →
              ∃ x' y' tx' ty' e, Op.call { callee := .builtin .append, args := #[x, y], argTypes := #[tx, ty] } = .call { callee := .builtin .append, args := #[x', y'], argTypes := #[tx', ty'] } ∧ evalO L x' = some (.slice q.a q.n q.cap) ∧ evalO L y' = some q.src ∧
                P.underlying tx' = some (.slice e) ∧ TIok P e q.elem ∧ ((∃ e', P.underlying ty' = some (.slice e')) ∨ P.underlying ty' = some .string) ∧ q.elem.zero.length = q.elem.size ∧ 0 < q.elem.bytes := by
            intro h hty'
            cases hz : Nat.beq j.zero.length j.size with
            | false => simp [hz] at h
            | true =>
              cases hb : Nat.blt 0 j.bytes with
              | false => simp [hz, hb] at h
              | true =>
                simp only [hz, hb, cond_true, Option.some.injEq] at h
                subst h
                have hd := (ok tx i htx).desc
                rw [hk] at hd
                exact ⟨x, y, tx, ty, e, rfl, hx, hy, hd, ok e j he, hty', beq_true hz, Nat.le_of_ble_eq_true hb⟩
          have hdy := (ok ty i' hty).desc
          split at h
          · rename_i hk'; rw [hk'] at hdy; exact fin h (.inl ⟨_, hdy⟩)
          · rename_i hk'; rw [hk'] at hdy; exact fin h (.inr hdy)
          · contradiction
        · contradiction
      · contradiction
    · contradiction
  · contradiction

theorem zeroCells_len (z : Array Value) (n : Nat) : (Builtin.zeroCells z n).size = n * z.size := by simp [Builtin.zeroCells]

def lenV : Value → Option Nat
  | .slice _ n _ => some n
  | .string s => some s.size
  | _ => none
theorem lenV_run {P : Program} {w : World} {v : Value} {n : Nat} (h : lenV v = some n) : (Builtin.lenOf v).run P w = .ok n w := by
  unfold lenV at h
  split at h <;> simp only [Option.some.injEq, reduceCtorEq] at h <;> subst h <;> rfl

section
variable {p : Pg} {fn : Func} {rd : List HProp} {post : Post} {C : Ctx p fn rd post} {all : Array Oper} {l : List Oper} {K : List It} {L : Env} {H : List HProp}

/-- What is appended, or copied: so many elements, these cells. -/
structure SrcOk (C : Ctx p fn rd post) (H : List HProp) (sz : Nat) (src : Value) (m : Nat) (ys : List Value) : Prop where
  len : lenV src = some m
  cells : ys.length = m * sz
  one : ∀ u ∈ ys, u.oneCell' = true
  run : ∀ w F Fk m', Sat H w Fk → (∀ b, Fk b → F b) → Fr C.w0 C.F0 w F → m' ≤ m → (Builtin.firstCells sz m' src).run p.P w = .ok (ys.take (m' * sz)).toArray w

theorem SrcOk.nil {sz : Nat} : SrcOk C H sz (.slice none 0 0) 0 [] :=
  ⟨rfl, by simp, fun u hu => (by cases hu), fun w F Fk m' _ _ _ h => (by
    obtain rfl : m' = 0 := by omega
    simp [Builtin.firstCells])⟩
theorem SrcOk.rs {sz : Nat} {a : Option Addr} {n cap : Nat} {ys : List Value} (h : RS C sz a n cap ys) (h1 : ∀ u ∈ ys, u.oneCell' = true) : SrcOk C H sz (.slice a n cap) n ys :=
  ⟨rfl, h.len.1, h1, fun _w _F _Fk _ _ _ hf hm => (h.now hf).cells (fun _b _l hb => hb.1) hm⟩
theorem SrcOk.sl {sz : Nat} {a : Option Addr} {n cap : Nat} {ys : List Value} {R : List HProp} [r : Rem H (W.sl sz a n cap ys) R] (hl : ys.length = n * sz) (h1 : ∀ u ∈ ys, u.oneCell' = true) : SrcOk C H sz (.slice a n cap) n ys :=
  ⟨rfl, hl, h1, fun w F Fk m' hs _ _ hm => by
    obtain ⟨F1, F2, h, _⟩ := r.ent w Fk hs
    have h : viewOf (fun b l => F1 b ∧ ownAt w b l) sz a n cap ys := h
    exact h.cells (fun b l hb => hb.2.blk) hm⟩
theorem SrcOk.blk {sz : Nat} {b off n cap : Nat} {cs ys : List Value} [h : Blk C H b cs] (hy : (cs.drop off).take (n * sz) = ys) (hl : off + n * sz ≤ cs.length) (h1 : ∀ u ∈ ys, u.oneCell' = true) :
    SrcOk C H sz (.slice (some ⟨b, off, none⟩) n cap) n ys := by
  subst hy
  refine ⟨rfl, by simp; omega, h1, fun w F Fk m' hs hF hf hm => ?_⟩
  have hs' : Sat H w F := hs.up hF
  have hle : m' * sz ≤ n * sz := Nat.mul_le_mul_right _ hm
  have hb := h.blk w F hs' hf
  simp only [Builtin.firstCells]
  rw [loadCells_run hb off (m' * sz) (by omega), List.take_take, Nat.min_eq_left hle]
theorem SrcOk.str (s : ByteArray) : SrcOk C H 1 (.string s) s.size (byteCells s) := by
  refine ⟨rfl, by rw [byteCells_length, Nat.mul_one], fun u hu => ?_, fun w F Fk m' _ _ _ hm => ?_⟩
  · obtain ⟨_, _, rfl⟩ := List.mem_map.1 hu; rfl
  · simp only [Builtin.firstCells, Sem.run_pure, Result.ok.injEq, and_true]
    apply Array.toList_inj.1
    simp only [byteCells, Array.toList_map, Nat.mul_one]
    congr 1
    simp [ByteArray.data_extract]

/-- append onto an owned slice. -/
theorem G.append {o : Oper} {d : Tmp} {q : Ap} {m : Nat} {xs ys : List Value} {R : List HProp} (hop : apO p.tt L o.op = some q) [pk : Rem H (W.sl q.elem.size q.a q.n q.cap xs) R] (hsrc : SrcOk C R q.elem.size q.src m ys)
    (hb : (q.n + m) * q.elem.bytes ≤ 140737488355328) (hg : guardV all L o.guard = some true) (hd : o.dst = some d) (hn : Nat.blt d fn.ntmps = true)
    (k : ∀ a' cap', G C (.ops all l :: K) ((d, .slice a' (q.n + m) cap') :: L) (W.sl q.elem.size a' (q.n + m) cap' (xs ++ ys) :: R)) : G C (.ops all (o :: l) :: K) L H := by
  refine G.val (H' := fun v Hs => ∃ a' cap', v = .slice a' (q.n + m) cap' ∧ Hs = W.sl q.elem.size a' (q.n + m) cap' (xs ++ ys) :: R) hg hd (Nat.le_of_ble_eq_true hn) (fun a w F ha hs hf => ?_) ?_
  rotate_left
  · rintro v Hs ⟨a', cap', rfl, rfl⟩; exact k a' cap'
  obtain ⟨F1, F2, hv, hR, hdis, hF1, hF2⟩ := pk.ent w F hs
  have hv : viewOf (fun b l => F1 b ∧ ownAt w b l) q.elem.size q.a q.n q.cap xs := hv
  obtain ⟨dst, op, ty', pos, after, guard⟩ := o
  obtain ⟨x, y, tx, ty, e, rfl, hx, hy, hdx, hj, hdy, hz, hbt⟩ := apO_inv p.ok hop
  obtain ⟨j, hji, hjs, hjb, zv, hjz, hzc⟩ := hj.info
  have hcut := fun m' hm' => hsrc.run w F F2 m' hR hF2 hf hm'
  have hS : Src p.P j.size ty q.src m ys w := by
    refine ⟨hdy, fun w' => lenV_run hsrc.len, ?_, ?_, by rw [hjs]; exact hsrc.cells, hsrc.one⟩
    · rw [hjs]
      have := hcut m (Nat.le_refl _)
      rwa [List.take_of_length_le (by rw [hsrc.cells]; exact Nat.le_refl _)] at this
    · rw [hjs]
      have := hsrc.run w.drew F F2 m (Sat.loc (w := w) (w' := w.drew) (fun _ _ => rfl) hR) hF2 (hf.drew _) (Nat.le_refl _)
      rwa [List.take_of_length_le (by rw [hsrc.cells]; exact Nat.le_refl _)] at this
  have fin : ∀ {v : Value} {w' : World} {F' : Foot} {Hs : List HProp}, (Builtin.append_ #[tx, ty] ty' #[.slice q.a q.n q.cap, q.src]).run p.P w = .ok v w' →
      (∃ a' cap', v = .slice a' (q.n + m) cap' ∧ Hs = W.sl q.elem.size a' (q.n + m) cap' (xs ++ ys) :: R) → Sat Hs w' F' → Fr C.w0 C.F0 w' F' →
      ∃ v w' F' Hs, (execOp a.eval { dst, op := .call { callee := .builtin .append, args := #[x, y], argTypes := #[tx, ty] }, type := ty', pos, after, guard }).run p.P w = .ok (.value v) w' ∧
        (∃ a' cap', v = .slice a' (q.n + m) cap' ∧ Hs = W.sl q.elem.size a' (q.n + m) cap' (xs ++ ys) :: R) ∧ Sat Hs w' F' ∧ Fr C.w0 C.F0 w' F' := by
    intro v w' F' Hs hr hH hS hF
    refine ⟨v, w', F', Hs, ?_, hH, hS, hF⟩
    have hargs : (#[x, y] : Array Operand).map a.eval = #[.slice q.a q.n q.cap, q.src] := by simp [ha.eval hx, ha.eval hy]
    simp only [execOp, resolve, invoke, builtin, hargs]
    show Sem.run p.P (do pure (Next.value (← Builtin.append_ #[tx, ty] ty' #[.slice q.a q.n q.cap, q.src]))) w = _
    rw [Sem.run_bind, hr]; rfl
  obtain ⟨v1, v2, v3⟩ := hv
  have hmul : (q.n + m) * q.elem.size = q.n * q.elem.size + m * q.elem.size := Nat.add_mul _ _ _
  by_cases hm0 : m = 0
  · subst hm0
    have hys : ys = [] := by have := hsrc.cells; simpa using this
    subst hys
    have := run_append_nothing (P := p.P) w tx ty ty' e j hdx hji q.a q.n q.cap v2 q.src hS
    exact fin this ⟨q.a, q.cap, rfl, rfl⟩ ⟨F1, F2, ⟨by simpa using v1, by simpa using v2, by simpa using v3⟩, hR, hdis, hF1, hF2⟩ hf
  · by_cases hfit : q.n + m ≤ q.cap
    · cases hqa : q.a with
      | none => rw [hqa] at v3; simp only at v3; omega
      | some ad =>
        rw [hqa] at v3
        obtain ⟨hsp, pre, rest, hpre, ⟨hFb, ho⟩, hcap⟩ := v3
        obtain ⟨b, off, spot⟩ := ad
        simp only at hsp hpre hFb ho
        subst hsp
        have hms : (q.n + m) * q.elem.size ≤ q.cap * q.elem.size := Nat.mul_le_mul_right _ hfit
        obtain ⟨w', hst, ho', hw'⟩ := storeCells_run (P := p.P) (cs := ys) (off := off + q.n * q.elem.size) 0 ho (by simp [hsrc.cells, v1]; omega) hsrc.one
        have hr : (Builtin.append_ #[tx, ty] ty' #[.slice q.a q.n q.cap, q.src]).run p.P w = .ok (.slice q.a (q.n + m) q.cap) w' := by
          have hcells := hS.cells
          rw [hjs] at hcells
          rw [hqa]
          rcases hdy with ⟨e', hk⟩ | hk <;> simp [Builtin.append_, run_underlying hdx, run_underlying hk, sizeOf, typeInfo, hji, hjs, hS.len, hfit, hcells, Addr.add_none, hst]
        refine fin hr ⟨q.a, q.cap, rfl, rfl⟩ (F' := F) ⟨F1, F2, ⟨?_, hfit, ?_⟩, hR.loc (fun c hc => hw'.other c (fun e => by subst e; exact hdis _ hFb hc)), hdis, hF1, hF2⟩ (hw'.fr hf (hF1 _ hFb))
        · simp [v1, hsrc.cells]; omega
        · rw [hqa]
          refine ⟨rfl, pre, rest.drop ys.length, hpre, ⟨hFb, ?_⟩, by simp [hsrc.cells]; omega⟩
          have e1 : (pre ++ (xs ++ rest)).take (off + q.n * q.elem.size + 0) = pre ++ xs := by
            have : off + q.n * q.elem.size + 0 = (pre ++ xs).length := by simp [hpre, v1]
            rw [this, ← List.append_assoc, List.take_left]
          have e2 : (pre ++ (xs ++ rest)).drop (off + q.n * q.elem.size + 0 + ys.length) = rest.drop ys.length := by
            have : off + q.n * q.elem.size + 0 + ys.length = (pre ++ xs).length + ys.length := by simp [hpre, v1]
            rw [this, ← List.append_assoc, List.drop_append, List.drop_eq_nil_of_le (by omega), Nat.add_sub_cancel_left, List.nil_append]
          rw [e1, e2] at ho'
          simpa [List.append_assoc] using ho'
    · have hold : (Builtin.firstCells j.size q.n (.slice q.a q.n q.cap)).run p.P w.drew = .ok xs.toArray w.drew := by
        have hvD : viewOf (fun b l => F1 b ∧ ownAt w.drew b l) q.elem.size q.a q.n q.cap xs := ⟨v1, v2, v3⟩
        have := hvD.cells (P := p.P) (fun b l hb => hb.2.blk) (Nat.le_refl _)
        rwa [List.take_of_length_le (by rw [v1]; exact Nat.le_refl _), ← hjs] at this
      have hr := run_append_grow_src (P := p.P) w tx ty ty' e j zv hdx hji hjz q.a q.n q.cap xs hold q.src m ys hS (by omega) (by
          have : (q.n + m) * 1 ≤ (q.n + m) * q.elem.bytes := Nat.mul_le_mul_left _ hbt
          omega) (by rw [hjb]; exact growslice_fits (by omega) hb)
      have hcg : q.n + m ≤ grownCap w (q.n + m) q.cap e := by unfold grownCap; simp only [Question.cut]; omega
      refine fin hr ⟨_, _, rfl, rfl⟩ (F' := fun b => F2 b ∨ b = w.heap.size) ?_ ((hf.fresh _ (w.drawn + 1)).down fun b hb => hb.imp (hF2 b) id)
      refine ⟨fun b => b = w.heap.size, F2, ⟨by simp [v1, hsrc.cells]; omega, hcg, rfl, [], (Builtin.zeroCells zv.cells (grownCap w (q.n + m) q.cap e - (q.n + m))).toList, rfl, ⟨rfl, ?_⟩, ?_⟩, hR.loc (fun b hb => ?_), fun b h h' => ?_, fun b h => .inr h, fun b h => .inl h⟩
      · refine ⟨e, 0, 0, ?_, .inl rfl⟩
        show (w.heap.push _)[w.heap.size]? = _
        simp
      · have : (Builtin.zeroCells zv.cells (grownCap w (q.n + m) q.cap e - (q.n + m))).toList.length = (grownCap w (q.n + m) q.cap e - (q.n + m)) * q.elem.size := by
          rw [Array.length_toList, zeroCells_len, hzc]; simp [hz]
        rw [this, Nat.sub_mul]; simp [v1, hsrc.cells]; omega
      · have := hf.inb b (hF2 b hb)
        show (w.heap.push _)[b]? = _
        rw [Array.getElem?_push_lt this]; simp [this]
      · subst h; exact Nat.lt_irrefl _ (hf.inb _ (hF2 _ h'))

/-- The same, in parts that are written out. -/
def apT (tt : TypeId → Option TI) (L : Env) (o : Op) : Option (Option Addr × Nat × Nat × Nat × Nat × Value) :=
  match apO tt L o with
  | some ⟨a, n, c, ⟨_, sz, bytes, _⟩, src⟩ => some (a, n, c, sz, bytes, src)
  | none => none

/-- append, the rest said by 'rfl'. -/
theorem xapp {o : Oper} {d : Tmp} {a : Option Addr} {n c sz bytes m : Nat} {src : Value} (xs : List Value) {ys : List Value} {R : List HProp} (hop : apT p.tt L o.op = some (a, n, c, sz, bytes, src)) [pk : Rem H (W.sl sz a n c xs) R] (hsrc : SrcOk C R sz src m ys)
    (hb : (n + m) * bytes ≤ 140737488355328) (k : ∀ a' cap', G C (.ops all l :: K) ((d, .slice a' (n + m) cap') :: L) (W.sl sz a' (n + m) cap' (xs ++ ys) :: R))
    (hg : guardV all L o.guard = some true := by rfl) (hd : o.dst = some d := by rfl) (hn : Nat.blt d fn.ntmps = true := by rfl) : G C (.ops all (o :: l) :: K) L H := by
  unfold apT at hop
  split at hop
  · rename_i a' n' c' k' sz' bytes' z' src' h
    simp only [Option.some.injEq, Prod.mk.injEq] at hop
    obtain ⟨rfl, rfl, rfl, rfl, rfl, rfl⟩ := hop
    exact G.append h hsrc hb hg hd hn k
  · contradiction
end
end Go.W
