/- Part of the proof: LKk, LKl, LKm, LKn -/
import Derived.Test.YtdalmiacjicgpaaGreatDoorK9
import Derived.Test.YtdalmiacjicgpaaGreatDoorK3
/- loader: pieces, bank. -/
namespace Go.Proofs.YtdalmiacjicgpaaGreatDoor
open Go.W

def pcN (n : Nat) : Nat := (n + 53) / 54
def pcB (b : List UInt8) (k : Nat) : List UInt8 := (b.drop (54 * k)).take 54
def pcC (a : Option Addr) (n cap k : Nat) : Value := .slice (subA a (54 * k) 1 cap) (min 54 (n - 54 * k)) (cap - 54 * k)
def pcV (a : Option Addr) (n cap N : Nat) : List Value := (List.range N).map (pcC a n cap)
theorem pcV_len (a : Option Addr) (n cap N : Nat) : (pcV a n cap N).length = N := by simp [pcV]
theorem pcV_succ (a : Option Addr) (n cap N : Nat) : pcV a n cap (N + 1) = pcV a n cap N ++ [pcC a n cap N] := by simp [pcV, List.range_succ]
theorem pcV_one (a : Option Addr) (n cap N : Nat) : ∀ v ∈ pcV a n cap N, v.oneCell' = true := by
  intro v hv; obtain ⟨k, _, rfl⟩ := List.mem_map.1 hv; rfl
theorem subA_sub {a : Option Addr} {k m cap : Nat} (h : k + m < cap) : subA (subA a k 1 cap) m 1 (cap - k) = subA a (k + m) 1 cap := by
  unfold subA
  rw [if_neg (by omega), if_neg (by omega), if_neg (by omega)]
  cases a with
  | none => rfl
  | some ad =>
    simp only [Option.map_some, Nat.mul_one]
    congr 1
    unfold Addr.add
    by_cases h1 : m = 0
    · subst h1; simp
    · by_cases h2 : k = 0
      · subst h2; simp
      · rw [if_neg h1, if_neg h2, if_neg (by omega)]
        simp [Nat.add_assoc]
theorem pieces_spec (a : Option Addr) (n cap : Nat) (hn : n ≤ 1000000) (hc : n ≤ cap) : Fun Tryz.prog 132 [.slice a n cap] [] [] fun v H => ∃ a' cap', v = .slice a' (pcN n) cap' ∧ H = [sl 1 a' (pcN n) cap' (pcV a n cap (pcN n))] := by
  refine xenter (p := pg) Tryz.call132 Tryz.func132 fun C => ?_
  refine G.sln 1 ?_
  repeat (first | refine xst ?_ | refine xar ?_ | refine xop ?_ | refine xlen ?_ | refine xld rfl ?_ | refine xsto rfl ?_ | refine xno ?_ | refine xt ?_ | refine xf ?_ | refine xnu ?_)
  refine G.loop (σ := Nat × Option Addr × Nat × Option Addr × Nat × Nat) (fun s__ => [(0, .slice s__.2.1 s__.2.2.2.2.2 s__.2.2.1), (3, .slice s__.2.2.2.1 s__.1 s__.2.2.2.2.1)]) (fun s__ => [sl 1 s__.2.2.2.1 s__.1 s__.2.2.2.2.1 (pcV a n cap s__.1)]) (fun s__ => s__.1 ≤ pcN n ∧ s__.2.2.2.2.2 = n - 54 * s__.1 ∧ s__.2.2.2.2.2 ≤ s__.2.2.1 ∧ (0 < s__.2.2.2.2.2 → s__.2.1 = subA a (54 * s__.1) 1 cap ∧ s__.2.2.1 = cap - 54 * s__.1)) (fun s__ => pcN n - s__.1) (0, a, cap, none, 0, n) ⟨Nat.zero_le _, by simp, hc, fun _ => ⟨by rw [Nat.mul_zero, subA_nought], by simp⟩⟩ (by repeat (first | exact trivial | refine ⟨rfl, ?_⟩)) (by show Ent _ [sl 1 none 0 0 []]; exact Ent.refl _) ?_
  rintro ⟨i, A, c, a', cap', r⟩ hI
  have hI : i ≤ pcN n ∧ r = n - 54 * i ∧ r ≤ c ∧ (0 < r → A = subA a (54 * i) 1 cap ∧ c = cap - 54 * i) := hI
  show G C _ [(0, .slice A r c), (3, .slice a' i cap')] [sl 1 a' i cap' (pcV a n cap i)]
  obtain ⟨hi, hr, hrc, hA⟩ := hI
  repeat (first | refine xst ?_ | refine xar ?_ | refine xop ?_ | refine xlen ?_ | refine xld rfl ?_ | refine xsto rfl ?_ | refine xno ?_ | refine xt ?_ | refine xf ?_ | refine xnu ?_)
  refine xd (q := (0 : Int) < (r : Int)) (fun h => ?_) (fun h => ?_)
  · have h : 0 < r := by omega
    obtain ⟨rfl, rfl⟩ := hA h
    have hiN : i < pcN n := by unfold pcN; omega
    obtain ⟨m, hm⟩ : ∃ m, m = min 54 r := ⟨_, rfl⟩
    repeat (first | refine xst ?_ | refine xar ?_ | refine xop ?_ | refine xlen ?_ | refine xld rfl ?_ | refine xsto rfl ?_ | refine xno ?_ | refine xt ?_ | refine xf ?_ | refine xnu ?_)
    refine xmm ?_
    refine xE 10 (.int .i64 (m : Int)) rfl (congrArg (Value.int .i64) (by unfold minI; split <;> omega)) ?_
    repeat (first | refine xst ?_ | refine xar ?_ | refine xop ?_ | refine xlen ?_ | refine xld rfl ?_ | refine xsto rfl ?_ | refine xno ?_ | refine xt ?_ | refine xf ?_ | refine xnu ?_)
    refine xslice 0 m rfl rfl rfl (Nat.zero_le _) (by omega) ?_
    refine xE 14 (pcC a n cap i) rfl (by rw [subA_nought]; unfold pcC; rw [← hr, ← hm]; rfl) ?_
    refine xbsl fun b15 => ?_
    refine xrep 0 [pcC a n cap i] rfl rfl ?_
    refine xapp (pcV a n cap i) rfl (SrcOk.blk (ys := [pcC a n cap i]) rfl (Nat.le_of_ble_eq_true rfl) (by intro v hv; rw [List.mem_singleton] at hv; subst hv; rfl)) (by show (i + 1) * 24 ≤ _; unfold pcN at hiN; omega) fun a2 c2 => ?_
    repeat (first | refine xst ?_ | refine xar ?_ | refine xop ?_ | refine xlen ?_ | refine xld rfl ?_ | refine xsto rfl ?_ | refine xno ?_ | refine xt ?_ | refine xf ?_ | refine xnu ?_)
    refine xslice m r rfl rfl rfl (by omega) hrc ?_
    repeat (first | refine xst ?_ | refine xar ?_ | refine xop ?_ | refine xlen ?_ | refine xld rfl ?_ | refine xsto rfl ?_ | refine xno ?_ | refine xt ?_ | refine xf ?_ | refine xnu ?_)
    refine G.fin (i + 1, subA (subA a (54 * i) 1 cap) m 1 (cap - 54 * i), cap - 54 * i - m, a2, c2, r - m) ⟨⟨by show i + 1 ≤ _; omega, by show r - m = n - 54 * (i + 1); omega, by show r - m ≤ cap - 54 * i - m; omega, fun h0 => ?_⟩, by show pcN n - (i + 1) < pcN n - i; omega⟩ ⟨rfl, rfl, trivial⟩ ?_
    · have h0 : 0 < r - m := h0
      have hm54 : m = 54 := by omega
      refine ⟨?_, by show cap - 54 * i - m = cap - 54 * (i + 1); omega⟩
      show subA (subA a (54 * i) 1 cap) m 1 (cap - 54 * i) = subA a (54 * (i + 1)) 1 cap
      rw [hm54, subA_sub (by omega)]; congr 1
    · show Ent _ [sl 1 a2 (i + 1) c2 (pcV a n cap (i + 1))]
      rw [pcV_succ]; exact ent_pick
  · obtain rfl : i = pcN n := by unfold pcN at hi ⊢; omega
    repeat (first | refine xst ?_ | refine xar ?_ | refine xop ?_ | refine xlen ?_ | refine xld rfl ?_ | refine xsto rfl ?_ | refine xno ?_ | refine xt ?_ | refine xf ?_ | refine xnu ?_)
    refine xretp [0] ?_
    exact ⟨a', cap', rfl, rfl⟩

structure Pz where
  a : Option Addr
  cap : Nat
  bs : List UInt8
def Pz.c (q : Pz) : Value := .slice q.a q.bs.length q.cap
def Pz.h (q : Pz) : HProp := sl 1 q.a q.bs.length q.cap (bsV q.bs)
def pzV (l : List Pz) : List Value := l.map Pz.c
theorem pzV_len (l : List Pz) : (pzV l).length = l.length := by simp [pzV]
theorem pzV_get {l : List Pz} {k : Nat} (h : k < l.length) : (pzV l)[k]? = some (l[k].c) := by simp [pzV, h]
def bankL (g : UInt32) (m : Man) (b : List UInt8) : Nat → List (List UInt8)
  | 0 => [firstB g m]
  | N + 1 => bankL g m b N ++ [dataB g N (pcB b N)]
theorem bankL_len (g : UInt32) (m : Man) (b : List UInt8) : ∀ N, (bankL g m b N).length = N + 1
  | 0 => rfl
  | N + 1 => by rw [bankL, List.length_append, bankL_len g m b N]; rfl
theorem bank_spec (g : UInt32) (m : Man) (hs : m.sum.length = 32) (a : Option Addr) (n cap : Nat) (b : List UInt8) (hnb : n = b.length) (hn : n ≤ 5000) (hc : n ≤ cap) : Fun Tryz.prog 87 [wV g, .agg m.v.toArray, .slice a n cap] [gNib, slR 1 a n cap (bsV b)] []
    fun v H => ∃ (a' : Option Addr) (cap' : Nat) (Q : List Pz), Q.map (·.bs) = bankL g m b (pcN n) ∧ v = .slice a' (pcN n + 1) cap' ∧ H = [sl 1 a' (pcN n + 1) cap' (pzV Q), starP (Q.map Pz.h)] := by
  refine xenter (p := pg) Tryz.call87 Tryz.func87 fun C => ?_
  haveI : RP C gNib := RP.of C (by simp)
  have hb := RP.slR (RP.of C (X := slR 1 a n cap (bsV b)) (by simp))
  have hml := Man.v_len hs
  refine xst ?_
  refine xst ?_
  refine xnew fun mb => ?_
  refine xrep 0 m.v rfl rfl ?_
  repeat (first | refine xst ?_ | refine xar ?_ | refine xop ?_ | refine xlen ?_ | refine xld rfl ?_ | refine xsto rfl ?_ | refine xno ?_ | refine xt ?_ | refine xf ?_ | refine xnu ?_)
  refine xld rfl ?_ (hv := partF_all rfl hml)
  refine xcall (firstS_spec g m hs) ?_
  rintro v H ⟨a1, c1, rfl, rfl⟩
  refine G.app ?_
  refine xbsl fun b13 => ?_
  obtain ⟨q0, hq0⟩ : ∃ q : Pz, q = ⟨a1, c1, firstB g m⟩ := ⟨_, rfl⟩
  refine xrep 0 (pzV [q0]) rfl (by rw [hq0]; rfl) ?_
  refine xslc 0 1 1 (pzV [q0]) rfl rfl rfl ?_
  refine xreH 1 q0.h rfl (by rw [hq0]; rfl) ?_
  refine G.fold (starP []) [] star_nil ?_
  refine xfold (starP ([] ++ [q0.h])) [1, 0] rfl star_snoc ?_
  refine xreH 0 (starP [q0.h]) rfl rfl ?_
  repeat (first | refine xst ?_ | refine xar ?_ | refine xop ?_ | refine xlen ?_ | refine xld rfl ?_ | refine xsto rfl ?_ | refine xno ?_ | refine xt ?_ | refine xf ?_ | refine xnu ?_)
  refine xcall (pieces_spec a n cap (by omega) hc) ?_
  rintro v H ⟨a2, c2, rfl, rfl⟩
  refine G.app ?_
  repeat (first | refine xst ?_ | refine xar ?_ | refine xop ?_ | refine xlen ?_ | refine xld rfl ?_ | refine xsto rfl ?_ | refine xno ?_ | refine xt ?_ | refine xf ?_ | refine xnu ?_)
  refine G.loop (σ := Nat × Option Addr × Nat × List Pz) (fun s__ => [(0, wV g), (7, .slice s__.2.1 (s__.1 + 1) s__.2.2.1), (15, .slice a2 (pcN n) c2), (16, .int .i64 (pcN n : Int)), (17, .int .i64 (s__.1 : Int))]) (fun s__ => [starP (s__.2.2.2.map Pz.h), sl 1 s__.2.1 (s__.1 + 1) s__.2.2.1 (pzV s__.2.2.2), sl 1 a2 (pcN n) c2 (pcV a n cap (pcN n))]) (fun s__ => s__.1 ≤ pcN n ∧ s__.2.2.2.map (·.bs) = bankL g m b s__.1) (fun s__ => pcN n - s__.1) (0, some ⟨b13, 0, none⟩, 1, [q0]) ⟨Nat.zero_le _, by rw [hq0]; rfl⟩ (by repeat (first | exact trivial | refine ⟨rfl, ?_⟩)) (by show Ent _ [starP [q0.h], sl 1 (some ⟨b13, 0, none⟩) 1 1 (pzV [q0]), sl 1 a2 (pcN n) c2 (pcV a n cap (pcN n))]; exact ent_pick) ?_
  rintro ⟨i, A, C7, Q⟩ hI
  have hI : i ≤ pcN n ∧ Q.map (·.bs) = bankL g m b i := hI
  show G C _ [(0, wV g), (7, .slice A (i + 1) C7), (15, .slice a2 (pcN n) c2), (16, .int .i64 (pcN n : Int)), (17, .int .i64 (i : Int))] [starP (Q.map Pz.h), sl 1 A (i + 1) C7 (pzV Q), sl 1 a2 (pcN n) c2 (pcV a n cap (pcN n))]
  obtain ⟨hi, hQ⟩ := hI
  repeat (first | refine xst ?_ | refine xar ?_ | refine xop ?_ | refine xlen ?_ | refine xld rfl ?_ | refine xsto rfl ?_ | refine xno ?_ | refine xt ?_ | refine xf ?_ | refine xnu ?_)
  refine xd (q := (i : Int) < (pcN n : Int)) (fun h => ?_) (fun h => ?_)
  · have h : i < pcN n := by omega
    have hin : 54 * i < n := by unfold pcN at h; omega
    refine xslf 2 rfl fun q1 q2 q3 => ?_
    obtain ⟨pb, po, rfl⟩ := q3 (by omega)
    have hget : (pcV a n cap (pcN n))[i]? = some (pcC a n cap i) := by simp [pcV, h]
    repeat (first | refine xst ?_ | refine xar ?_ | refine xop ?_ | refine xlen ?_ | refine xld rfl ?_ | refine xsto rfl ?_ | refine xno ?_ | refine xt ?_ | refine xf ?_ | refine xnu ?_)
    refine xix ?_ (hk := h)
    refine xldl rfl i hget ?_
    repeat (first | refine xst ?_ | refine xar ?_ | refine xop ?_ | refine xlen ?_ | refine xld rfl ?_ | refine xsto rfl ?_ | refine xno ?_ | refine xt ?_ | refine xf ?_ | refine xnu ?_)
    have hsub := hb.subB (k := 54 * i) (m := 54 * i + min 54 (n - 54 * i)) (by omega) (by omega)
    rw [Nat.add_sub_cancel_left] at hsub
    have hpl : (pcB b i).length = min 54 (n - 54 * i) := by unfold pcB; rw [List.length_take, List.length_drop, ← hnb]
    have hpe : (b.drop (54 * i)).take (min 54 (n - 54 * i)) = pcB b i := by
      unfold pcB
      rcases Nat.le_total 54 (n - 54 * i) with h' | h'
      · rw [Nat.min_eq_left h']
      · rw [Nat.min_eq_right h', List.take_of_length_le (by rw [List.length_drop]; omega), List.take_of_length_le (by rw [List.length_drop]; omega)]
    rw [hpe] at hsub
    haveI := hsub
    refine xE 25 (.slice (subA a (54 * i) 1 cap) (min 54 (n - 54 * i)) (cap - 54 * i)) rfl rfl ?_
    refine xcall (dataS_spec g i (by unfold pcN at h; omega) (subA a (54 * i) 1 cap) (min 54 (n - 54 * i)) (cap - 54 * i) (pcB b i) hpl.symm (by omega)) ?_
    rintro v H ⟨a3, c3, rfl, rfl⟩
    refine G.app ?_
    refine xbsl fun b27 => ?_
    obtain ⟨q, hq⟩ : ∃ q : Pz, q = ⟨a3, c3, dataB g i (pcB b i)⟩ := ⟨_, rfl⟩
    refine xrep 0 (pzV [q]) rfl (by rw [hq]; rfl) ?_
    refine xreH 1 q.h rfl (by rw [hq]; rfl) ?_
    refine xapp (pzV Q) rfl (SrcOk.blk (ys := pzV [q]) rfl (Nat.le_of_ble_eq_true rfl) (by intro v hv; simp [pzV] at hv; subst hv; rfl)) (by show (i + 1 + 1) * 24 ≤ _; unfold pcN at h; omega) fun a4 c4 => ?_
    repeat (first | refine xst ?_ | refine xar ?_ | refine xop ?_ | refine xlen ?_ | refine xld rfl ?_ | refine xsto rfl ?_ | refine xno ?_ | refine xt ?_ | refine xf ?_ | refine xnu ?_)
    refine xfold (starP (Q.map Pz.h ++ [q.h])) [1, 2] rfl star_snoc ?_
    refine G.fin (i + 1, a4, c4, Q ++ [q]) ⟨⟨by show i + 1 ≤ _; omega, by show (Q ++ [q]).map (·.bs) = bankL g m b (i + 1); rw [List.map_append, hQ, hq]; rfl⟩, by show pcN n - (i + 1) < pcN n - i; omega⟩ ⟨rfl, rfl, rfl, rfl, rfl, trivial⟩ ?_
    show Ent _ [starP ((Q ++ [q]).map Pz.h), sl 1 a4 (i + 1 + 1) c4 (pzV (Q ++ [q])), sl 1 (some ⟨pb, po, none⟩) (pcN n) c2 (pcV a n cap (pcN n))]
    rw [List.map_append, show pzV (Q ++ [q]) = pzV Q ++ pzV [q] by simp [pzV], show List.map Pz.h [q] = [q.h] from rfl]
    exact ent_pick
  · obtain rfl : i = pcN n := by omega
    repeat (first | refine xst ?_ | refine xar ?_ | refine xop ?_ | refine xlen ?_ | refine xld rfl ?_ | refine xsto rfl ?_ | refine xno ?_ | refine xt ?_ | refine xf ?_ | refine xnu ?_)
    refine xretp [1, 0] ?_
    exact ⟨A, C7, Q, hQ, rfl, rfl⟩
end Go.Proofs.YtdalmiacjicgpaaGreatDoor

/- loader: a region, load. -/
namespace Go.Proofs.YtdalmiacjicgpaaGreatDoor
open Go.W

/-! ## A partition's region -/
structure Rg where
  gen : UInt32
  bank : Nat
  has : Bool
  img : List UInt8
  ver : UInt32
  staged : Bool
  mf : Man
  got : List UInt8
/-- Where its bytes lie. -/
structure Ra where
  ia : Option Addr
  ic : Nat
  ga : Option Addr
  gc : Nat
def Ra.none : Ra := ⟨.none, 0, .none, 0⟩
def Rg.v (sp : Nat) (q : Rg) (A : Ra) : List Value := .pointer (some ⟨sp, 0, none⟩) :: wV q.gen :: .int .i64 (q.bank : Int) :: .bool q.has :: .slice A.ia q.img.length A.ic :: wV q.ver :: .bool q.staged :: stgV q.mf (.slice A.ga q.got.length A.gc)
def Rg.ok (q : Rg) : Prop := q.mf.sum.length = 32 ∧ q.bank ≤ 1 ∧ q.img.length ≤ 1000000 ∧ q.got.length ≤ 1000000
theorem Rg.v_len {sp : Nat} {q : Rg} {A : Ra} (h : q.mf.sum.length = 32) : (Rg.v sp q A).length = 43 := by unfold Rg.v; simp only [List.length_cons, stgV_len h]
def Rg.new : Rg := ⟨0, 1, false, [], 0, false, man0, []⟩

/-! ## What a disk says of a partition -/
/-- A head, if it is newer. -/
def hdStep (b : UInt32 × Nat) (h : Option (UInt32 × Nat)) : UInt32 × Nat := match h with
  | some (g, n) => if b.1.toNat < g.toNat then (g, n) else b
  | none => b
def hdF (S : Dk) (f : Nat) : UInt32 × Nat := hdStep (hdStep (0, 1) (headF 0 (S.get f).1)) (headF 1 (S.get (f + 1)).1)
/-- A bank that has an image. -/
def BankIs (S : Dk) (f : Nat) (g : UInt32) (n : Nat) (m : Man) (w : List UInt8) : Prop :=
  m.ok = true ∧ m.sum.length = 32 ∧ (w.length : Int) = m.size ∧ firstB g m = (S.get (f + (2 + n * 11))).1 ∧ ∀ k, k < pcN w.length → dataB g k (pcB w k) = (S.get (f + (2 + n * 11) + 1 + k)).1
def Good (S : Dk) (f part : Nat) (g : UInt32) (n : Nat) (m : Man) (w : List UInt8) : Prop := BankIs S f g n m w ∧ m.part = (part : Int) ∧ progF m w = []
/-- What is loaded. -/
def LoadR (S : Dk) (f part : Nat) (q : Rg) : Prop :=
  (q.gen, q.bank) = hdF S f ∧ q.staged = false ∧ q.mf = man0 ∧ q.got = [] ∧
  ((q.has = true ∧ q.gen ≠ 0 ∧ ∃ m, Good S f part q.gen q.bank m q.img ∧ q.ver = m.ver) ∨ (q.has = false ∧ q.img = [] ∧ q.ver = 0 ∧ (q.gen = 0 ∨ ∀ m w, ¬ Good S f part q.gen q.bank m w)))

theorem firstB_inj {g : UInt32} {m m' : Man} (hs : m.sum.length = 32) (hs' : m'.sum.length = 32) (ho : m.ok = true) (ho' : m'.ok = true) (h : firstB g m = firstB g m') : m = m' := by
  have h1 := open_secB 73 g (encM m)
  have h2 := open_secB 73 g (encM m')
  have h : secB 73 g (encM m) = secB 73 g (encM m') := h
  rw [h, h2] at h1
  have h3 := Option.some.inj h1
  have e : ∀ m : Man, m.sum.length = 32 → m.ok = true → ((pad60 (secR 73 g (encM m))).drop 5).take 40 = encM m := fun m hs ho => by
    show List.take 40 (encM m ++ _) = _
    rw [List.take_append_of_le_length (by rw [enc_len hs ho]; decide), List.take_of_length_le (by rw [enc_len hs ho]; decide)]
  have he : encM m = encM m' := by rw [← e m hs ho, ← e m' hs' ho', h3]
  have p1 := enc_parts hs ho
  have p2 := enc_parts hs' ho'
  rw [he] at p1
  obtain ⟨a, b, c, d⟩ := m
  obtain ⟨a', b', c', d'⟩ := m'
  simp only at p1 p2 hs hs'
  have q3 : b = b' := UInt32.toNat_inj.1 (p1.2.2.1.symm.trans p2.2.2.1)
  have e1 : a = a' := p1.2.1.symm.trans p2.2.1
  have e3 : c = c' := p1.2.2.2.1.symm.trans p2.2.2.2.1
  have e4 : d = d' := p1.2.2.2.2.symm.trans p2.2.2.2.2
  subst e1 q3 e3 e4
  rfl

def Rg.hd (p : UInt32 × Nat) : Rg := { Rg.new with gen := p.1, bank := p.2 }
theorem get_len (S : Dk) (k : Nat) : (S.get k).1.length = 64 := (S.get k).2
theorem hd_bank (S : Dk) (f : Nat) : (hdF S f).2 ≤ 1 := by
  have h : ∀ (b : UInt32 × Nat) (at_ : Nat) (x : List UInt8), b.2 ≤ 1 → (hdStep b (headF at_ x)).2 ≤ 1 := fun b at_ x hb => by
    unfold hdStep
    cases e : headF at_ x with
    | none => exact hb
    | some p =>
      obtain ⟨g, n⟩ := p
      have := (headF_some.1 e).2.2.1
      simp only
      split
      · show n ≤ 1; omega
      · exact hb
  exact h _ _ _ (h _ _ _ (Nat.le_refl 1))
theorem pcB_append {w p : List UInt8} {k j : Nat} (hj : j < k) (hw : w.length = 54 * k) : pcB (w ++ p) j = pcB w j := by
  unfold pcB
  rw [List.drop_append_of_le_length (by omega), List.take_append_of_le_length (by rw [List.length_drop]; omega)]
theorem pcB_last {w p : List UInt8} {k : Nat} (hw : w.length = 54 * k) (hp : p.length ≤ 54) : pcB (w ++ p) k = p := by
  unfold pcB
  rw [List.drop_append, List.drop_eq_nil_of_le (by omega), List.nil_append, hw, Nat.sub_self, List.drop_zero, List.take_of_length_le hp]
theorem Man.ok_size {m : Man} (h : m.ok = true) : ∃ z : Nat, m.size = z ∧ 4 ≤ z ∧ z ≤ 512 := by
  unfold Man.ok at h
  rw [decide_eq_true_eq] at h
  exact ⟨m.size.toNat, by omega, by omega, by omega⟩
theorem dataB_inj {g : UInt32} {k : Nat} {p p' : List UInt8} (hl : p.length = p'.length) (h54 : p.length ≤ 54) (h : dataB g k p = dataB g k p') : p = p' := by
  have h1 := open_secB 68 g (putB k 1 ++ p)
  have h2 := open_secB 68 g (putB k 1 ++ p')
  have h : secB 68 g (putB k 1 ++ p) = secB 68 g (putB k 1 ++ p') := h
  rw [h, h2] at h1
  have h3 := Option.some.inj h1
  have e : ∀ q : List UInt8, ((pad60 (secR 68 g (putB k 1 ++ q))).drop 6).take q.length = q := fun q => by
    show List.take q.length (q ++ _) = _
    rw [List.take_append_of_le_length (Nat.le_refl _), List.take_length]
  rw [← e p, ← e p', h3, hl]
theorem pc_ext {w w' : List UInt8} (hl : w.length = w'.length) (h : ∀ j, j < pcN w.length → pcB w j = pcB w' j) : w = w' := by
  apply List.ext_getElem hl
  intro i h1 h2
  have hj := h (i / 54) (by unfold pcN; omega)
  have e : ∀ v : List UInt8, (pcB v (i / 54))[i % 54]? = v[i]? := fun v => by
    unfold pcB
    rw [List.getElem?_take_of_lt (by omega), List.getElem?_drop]
    congr 1; omega
  have := e w
  rw [hj, e w', List.getElem?_eq_getElem h1, List.getElem?_eq_getElem h2] at this
  exact (Option.some.inj this).symm
def ldPost (S : Dk) (rb off sp f part : Nat) (pre post : List Value) : Post := fun v H => ∃ (q : Rg) (A : Ra), v = .int .i64 0 ∧ LoadR S f part q ∧ q.ok ∧ A.ga = none ∧ A.gc = 0 ∧ H = [pts rb (pre ++ (Rg.v sp q A ++ post)), sl 1 A.ia q.img.length A.ic (bsV q.img)]
/-- The head is known. -/
theorem ld_none {S : Dk} {f part : Nat} (h : (hdF S f).1 = 0 ∨ ∀ m w, ¬ Good S f part (hdF S f).1 (hdF S f).2 m w) : LoadR S f part (Rg.hd (hdF S f)) :=
  ⟨rfl, rfl, rfl, rfl, .inr ⟨rfl, rfl, rfl, h⟩⟩
theorem hd_ok {S : Dk} {f : Nat} : (Rg.hd (hdF S f)).ok := ⟨rfl, hd_bank S f, Nat.zero_le _, Nat.zero_le _⟩
set_option maxHeartbeats 2000000 in
theorem load_spec (rb off sp part f d : Nat) (pre post : List Value) (hoff : pre.length = off) (S : Dk) (ok : S.ok) (hpw : S.off = false) (hp : S.pend.length ≤ 1000000) (hf : f + 24 ≤ S.sec.length) (hpart : part < 8) :
    Fun Tryz.prog 35 [.pointer (some ⟨rb, off, none⟩), .int .i64 (part : Int)] [gNib, gErr, kV, iniV, rdb sp (ptC f 24 d), diskH d S] [pts rb (pre ++ (Rg.v sp Rg.new Ra.none ++ post))] (ldPost S rb off sp f part pre post) := by
  refine xenter (p := pg) Tryz.call35 Tryz.func35 fun C => ?_
  haveI : RP C gNib := RP.of C (by simp)
  haveI : RP C gErr := RP.of C (by simp)
  haveI : RP C kV := RP.of C (by simp)
  haveI : RP C iniV := RP.of C (by simp)
  haveI := RP.rdb (RP.of C (X := rdb sp (ptC f 24 d)) (by simp))
  haveI : RP C (diskH d S) := RP.of C (by simp)
  have hfew := ok.few
  have hread : ∀ k : Nat, k < 24 → preadF S f 24 (k : Int) = (0, (S.get (f + k)).1) := fun k hk => pread_on hpw hk hf
  obtain ⟨hd, hhd⟩ : ∃ hd : Nat → UInt32 × Nat, hd = fun i => match i with | 0 => (0, 1) | 1 => hdStep (0, 1) (headF 0 (S.get f).1) | _ => hdF S f := ⟨_, rfl⟩
  have hd0 : hd 0 = (0, 1) := by rw [hhd]; rfl
  have hd2 : hd 2 = hdF S f := by rw [hhd]; rfl
  have hstep : ∀ i, i < 2 → hd (i + 1) = hdStep (hd i) (headF i (S.get (f + i)).1) := fun i hi => by
    rw [hhd]
    match i, hi with
    | 0, _ => rfl
    | 1, _ => rfl
  clear hhd
  have hvl : ∀ p, (Rg.v sp (Rg.hd p) Ra.none).length = 43 := fun p => Rg.v_len rfl
  repeat (refine xnot 22 ?_; first | refine xst ?_ | refine xar ?_ | refine xop ?_ | refine xlen ?_ | refine xld rfl ?_ | refine xsto rfl ?_ | refine xno ?_ | refine xt ?_ | refine xf ?_ | refine xnu ?_)
  refine xst ?_
  refine G.cut (σ := Unit) (fun _ => [(0, .pointer (some ⟨rb, off, none⟩)), (1, .int .i64 (part : Int))]) (fun _ => [pts rb (pre ++ (Rg.v sp (Rg.hd (hdF S f)) Ra.none ++ post))]) (fun _ => True) ?_ ?_
  · repeat (first | refine xst ?_ | refine xar ?_ | refine xop ?_ | refine xlen ?_ | refine xld rfl ?_ | refine xsto rfl ?_ | refine xno ?_ | refine xt ?_ | refine xf ?_ | refine xnu ?_)
    refine G.loop (σ := Nat) (fun i => [(0, .pointer (some ⟨rb, off, none⟩)), (1, .int .i64 (part : Int)), (22, .int .i64 (i : Int))]) (fun i => [pts rb (pre ++ (Rg.v sp (Rg.hd (hd i)) Ra.none ++ post))]) (fun i => i ≤ 2) (fun i => 2 - i) 0 (Nat.zero_le _) (by repeat (first | exact trivial | refine ⟨rfl, ?_⟩)) (by rw [hd0]; exact Ent.refl _) ?_
    rintro i hI
    have hI : i ≤ 2 := hI
    show G C _ [(0, .pointer (some ⟨rb, off, none⟩)), (1, .int .i64 (part : Int)), (22, .int .i64 (i : Int))] [pts rb (pre ++ (Rg.v sp (Rg.hd (hd i)) Ra.none ++ post))]
    repeat (first | refine xst ?_ | refine xar ?_ | refine xop ?_ | refine xlen ?_ | refine xld rfl ?_ | refine xsto rfl ?_ | refine xno ?_ | refine xt ?_ | refine xf ?_ | refine xnu ?_)
    refine xd (q := (i : Int) < 2) (fun h => ?_) (fun h => ?_)
    · have h : i < 2 := by omega
      repeat (first | refine xst ?_ | refine xar ?_ | refine xop ?_ | refine xlen ?_ | refine xld rfl ?_ | refine xsto rfl ?_ | refine xno ?_ | refine xt ?_ | refine xf ?_ | refine xnu ?_)
      refine xld rfl ?_ (hv := at_ld hoff rfl)
      repeat (first | refine xst ?_ | refine xar ?_ | refine xop ?_ | refine xlen ?_ | refine xld rfl ?_ | refine xsto rfl ?_ | refine xno ?_ | refine xt ?_ | refine xf ?_ | refine xnu ?_)
      refine xcall (pread_spec sp f 24 d S (i : Int) hp (by omega) (by decide)) ?_
      rintro v H ⟨a1, c1, rfl, rfl⟩
      refine G.app ?_
      have hrd := hread i (by omega)
      obtain ⟨b, hb⟩ : ∃ b, (S.get (f + i)).1 = b := ⟨_, rfl⟩
      have hb64 : b.length = 64 := by rw [← hb]; exact (S.get (f + i)).2
      have hst := hstep i h
      rw [hb] at hrd hst
      refine xE 31 (.tuple #[.slice a1 b.length c1, .int .i64 0]) rfl (by rw [hrd]) ?_
      refine xreH 0 (sl 1 a1 b.length c1 (bsV b)) rfl (by rw [hrd]) ?_
      refine xslf 0 rfl fun _ hc1 _ => ?_
      repeat (first | refine xst ?_ | refine xar ?_ | refine xop ?_ | refine xlen ?_ | refine xld rfl ?_ | refine xsto rfl ?_ | refine xno ?_ | refine xt ?_ | refine xf ?_ | refine xnu ?_)
      refine xcall (head_spec i (by omega) a1 b.length c1 b rfl hb64 hc1) ?_
      rintro v H ⟨rfl, g, n, okb, rfl, hh1, hh2⟩
      refine G.app ?_
      cases okb with
      | false =>
        rw [hh2 rfl] at hst
        have hst : hd (i + 1) = hd i := hst
        repeat (first | refine xst ?_ | refine xar ?_ | refine xop ?_ | refine xlen ?_ | refine xld rfl ?_ | refine xsto rfl ?_ | refine xno ?_ | refine xt ?_ | refine xf ?_ | refine xnu ?_)
        refine G.fin (i + 1) ⟨by show i + 1 ≤ 2; omega, by show 2 - (i + 1) < 2 - i; omega⟩ ⟨rfl, rfl, rfl, trivial⟩ ?_
        rw [hst]; exact ent_pick
      | true =>
        rw [hh1 rfl] at hst
        repeat (first | refine xst ?_ | refine xar ?_ | refine xop ?_ | refine xlen ?_ | refine xld rfl ?_ | refine xsto rfl ?_ | refine xno ?_ | refine xt ?_ | refine xf ?_ | refine xnu ?_)
        refine xld rfl ?_ (hv := at_ld hoff rfl)
        repeat (first | refine xst ?_ | refine xar ?_ | refine xop ?_ | refine xlen ?_ | refine xld rfl ?_ | refine xsto rfl ?_ | refine xno ?_ | refine xt ?_ | refine xf ?_ | refine xnu ?_)
        refine xd (q := ((hd i).1.toNat : Int) < (g.toNat : Int)) (fun hg => ?_) (fun hg => ?_)
        · have hst : hd (i + 1) = (g, n) := by rw [hst]; unfold hdStep; simp only; rw [if_pos (by omega)]
          repeat (first | refine xst ?_ | refine xar ?_ | refine xop ?_ | refine xlen ?_ | refine xld rfl ?_ | refine xsto rfl ?_ | refine xno ?_ | refine xt ?_ | refine xf ?_ | refine xnu ?_)
          refine xsto rfl ?_ (hm := at_st (v' := Rg.v sp (Rg.hd (g, (hd i).2)) Ra.none) hoff (by rw [hvl]; exact Nat.le_of_ble_eq_true rfl) rfl)
          repeat (first | refine xst ?_ | refine xar ?_ | refine xop ?_ | refine xlen ?_ | refine xld rfl ?_ | refine xsto rfl ?_ | refine xno ?_ | refine xt ?_ | refine xf ?_ | refine xnu ?_)
          refine xsto rfl ?_ (hm := at_st (v' := Rg.v sp (Rg.hd (g, n)) Ra.none) hoff (by rw [hvl]; exact Nat.le_of_ble_eq_true rfl) rfl)
          repeat (first | refine xst ?_ | refine xar ?_ | refine xop ?_ | refine xlen ?_ | refine xld rfl ?_ | refine xsto rfl ?_ | refine xno ?_ | refine xt ?_ | refine xf ?_ | refine xnu ?_)
          refine G.fin (i + 1) ⟨by show i + 1 ≤ 2; omega, by show 2 - (i + 1) < 2 - i; omega⟩ ⟨rfl, rfl, rfl, trivial⟩ ?_
          rw [hst]; exact ent_pick
        · have hst : hd (i + 1) = hd i := by rw [hst]; unfold hdStep; simp only; rw [if_neg (by omega)]
          repeat (first | refine xst ?_ | refine xar ?_ | refine xop ?_ | refine xlen ?_ | refine xld rfl ?_ | refine xsto rfl ?_ | refine xno ?_ | refine xt ?_ | refine xf ?_ | refine xnu ?_)
          refine G.fin (i + 1) ⟨by show i + 1 ≤ 2; omega, by show 2 - (i + 1) < 2 - i; omega⟩ ⟨rfl, rfl, rfl, trivial⟩ ?_
          rw [hst]; exact ent_pick
    · obtain rfl : i = 2 := by omega
      repeat (first | refine xst ?_ | refine xar ?_ | refine xop ?_ | refine xlen ?_ | refine xld rfl ?_ | refine xsto rfl ?_ | refine xno ?_ | refine xt ?_ | refine xf ?_ | refine xnu ?_)
      refine G.fin () trivial ⟨rfl, rfl, trivial⟩ ?_
      rw [hd2]; exact ent_pick
  rintro _ hI
  have hI : True := hI
  show G C _ [(0, .pointer (some ⟨rb, off, none⟩)), (1, .int .i64 (part : Int))] [pts rb (pre ++ (Rg.v sp (Rg.hd (hdF S f)) Ra.none ++ post))]
  clear hd hd0 hd2 hstep
  have hn1 := hd_bank S f
  obtain ⟨gen, n, hgn⟩ : ∃ gen n, hdF S f = (gen, n) := ⟨_, _, rfl⟩
  have hldn : (gen = 0 ∨ ∀ m w, ¬ Good S f part gen n m w) → LoadR S f part (Rg.hd (gen, n)) := fun h => by have := ld_none (S := S) (f := f) (part := part) (by rw [hgn]; exact h); rwa [hgn] at this
  have hokn : (Rg.hd (gen, n)).ok := by have := hd_ok (S := S) (f := f); rwa [hgn] at this
  have hload : (gen, n) = hdF S f := hgn.symm
  rw [hgn] at hn1
  have hn1 : n ≤ 1 := hn1
  refine xrep 0 (pre ++ (Rg.v sp (Rg.hd (gen, n)) Ra.none ++ post)) rfl (by rw [hgn]) ?_
  have hret : (gen = 0 ∨ ∀ m w, ¬ Good S f part gen n m w) → ldPost S rb off sp f part pre post (.int .i64 0) [pts rb (pre ++ (Rg.v sp (Rg.hd (gen, n)) Ra.none ++ post)), sl 1 none 0 0 []] := fun h => ⟨Rg.hd (gen, n), Ra.none, rfl, hldn h, hokn, rfl, rfl, rfl⟩
  repeat (first | refine xst ?_ | refine xar ?_ | refine xop ?_ | refine xlen ?_ | refine xld rfl ?_ | refine xsto rfl ?_ | refine xno ?_ | refine xt ?_ | refine xf ?_ | refine xnu ?_)
  refine xld rfl ?_ (hv := at_ld hoff rfl)
  repeat (first | refine xst ?_ | refine xar ?_ | refine xop ?_ | refine xlen ?_ | refine xld rfl ?_ | refine xsto rfl ?_ | refine xno ?_ | refine xt ?_ | refine xf ?_ | refine xnu ?_)
  refine xd (q := (gen.toNat : Int) = 0) (fun h0 => ?_) (fun h0 => ?_)
  · have hg0 : gen = 0 := UInt32.toNat_inj.1 (by show gen.toNat = 0; omega)
    repeat (first | refine xst ?_ | refine xar ?_ | refine xop ?_ | refine xlen ?_ | refine xld rfl ?_ | refine xsto rfl ?_ | refine xno ?_ | refine xt ?_ | refine xf ?_ | refine xnu ?_)
    refine G.sln 1 ?_
    refine xretp [1, 0] ?_
    exact hret (.inl hg0)
  have hgne : gen ≠ 0 := fun e => h0 (by rw [e]; rfl)
  repeat (first | refine xst ?_ | refine xar ?_ | refine xop ?_ | refine xlen ?_ | refine xld rfl ?_ | refine xsto rfl ?_ | refine xno ?_ | refine xt ?_ | refine xf ?_ | refine xnu ?_)
  refine xld rfl ?_ (hv := at_ld hoff rfl)
  refine xcall (bankAt_spec n (by omega)) ?_
  rintro v H ⟨rfl, rfl⟩
  refine G.app ?_
  repeat (first | refine xst ?_ | refine xar ?_ | refine xop ?_ | refine xlen ?_ | refine xld rfl ?_ | refine xsto rfl ?_ | refine xno ?_ | refine xt ?_ | refine xf ?_ | refine xnu ?_)
  refine xld rfl ?_ (hv := at_ld hoff rfl)
  repeat (first | refine xst ?_ | refine xar ?_ | refine xop ?_ | refine xlen ?_ | refine xld rfl ?_ | refine xsto rfl ?_ | refine xno ?_ | refine xt ?_ | refine xf ?_ | refine xnu ?_)
  refine xcall (pread_spec sp f 24 d S ((2 + n * 11 : Nat) : Int) hp (by omega) (by decide)) ?_
  rintro v H ⟨a1, c1, rfl, rfl⟩
  refine G.app ?_
  have hrd := hread (2 + n * 11) (by omega)
  obtain ⟨b, hb⟩ : ∃ b, (S.get (f + (2 + n * 11))).1 = b := ⟨_, rfl⟩
  have hb64 : b.length = 64 := by rw [← hb]; exact (S.get _).2
  rw [hb] at hrd
  refine xE 78 (.tuple #[.slice a1 b.length c1, .int .i64 0]) rfl (by rw [hrd]) ?_
  refine xreH 0 (sl 1 a1 b.length c1 (bsV b)) rfl (by rw [hrd]) ?_
  refine xslf 0 rfl fun _ hc1 _ => ?_
  repeat (first | refine xst ?_ | refine xar ?_ | refine xop ?_ | refine xlen ?_ | refine xld rfl ?_ | refine xsto rfl ?_ | refine xno ?_ | refine xt ?_ | refine xf ?_ | refine xnu ?_)
  refine xld rfl ?_ (hv := at_ld hoff rfl)
  repeat (first | refine xst ?_ | refine xar ?_ | refine xop ?_ | refine xlen ?_ | refine xld rfl ?_ | refine xsto rfl ?_ | refine xno ?_ | refine xt ?_ | refine xf ?_ | refine xnu ?_)
  refine xcall (manifest_spec gen a1 b.length c1 b rfl hb64 hc1) ?_
  rintro v H ⟨rfl, mf, okm, hms, rfl, hT, hF⟩
  refine G.app ?_
  have hml := Man.v_len hms
  repeat (first | refine xst ?_ | refine xar ?_ | refine xop ?_ | refine xlen ?_ | refine xld rfl ?_ | refine xsto rfl ?_ | refine xno ?_ | refine xt ?_ | refine xf ?_ | refine xnu ?_)
  refine xnew fun p14 => ?_
  refine xsta (cs := mf.v) rfl hml mf.v_one mf.v (put_all (by rw [hml]; rfl)) (by rw [hml]; exact Nat.le_of_ble_eq_true rfl) ?_
  cases okm with
  | false =>
    have hng : ∀ m w, ¬ Good S f part gen n m w := fun m w hg => hF rfl m hg.1.2.1 hg.1.1 (by rw [← hb]; exact hg.1.2.2.2.1)
    repeat (first | refine xst ?_ | refine xar ?_ | refine xop ?_ | refine xlen ?_ | refine xld rfl ?_ | refine xsto rfl ?_ | refine xno ?_ | refine xt ?_ | refine xf ?_ | refine xnu ?_)
    refine G.sln 1 ?_
    refine xretp [3, 0] ?_
    exact hret (.inr hng)
  | true =>
  obtain ⟨hmok, hfirst⟩ := hT rfl
  have hsame : ∀ m w, Good S f part gen n m w → m = mf := fun m w hg => firstB_inj hg.1.2.1 hms hg.1.1 hmok (by rw [hg.1.2.2.2.1, hb, hfirst])
  obtain ⟨z, hz, hz4, hz512⟩ := Man.ok_size hmok
  have hpz : pcN z ≤ 10 := by unfold pcN; omega
  repeat (first | refine xst ?_ | refine xar ?_ | refine xop ?_ | refine xlen ?_ | refine xld rfl ?_ | refine xsto rfl ?_ | refine xno ?_ | refine xt ?_ | refine xf ?_ | refine xnu ?_)
  refine xd (q := mf.part ≠ (part : Int)) (fun hpt => ?_) (fun hpt => ?_)
  · have hng : ∀ m w, ¬ Good S f part gen n m w := fun m w hg => hpt (by rw [← hsame m w hg]; exact hg.2.1)
    repeat (first | refine xst ?_ | refine xar ?_ | refine xop ?_ | refine xlen ?_ | refine xld rfl ?_ | refine xsto rfl ?_ | refine xno ?_ | refine xt ?_ | refine xf ?_ | refine xnu ?_)
    refine G.sln 1 ?_
    refine xretp [3, 0] ?_
    exact hret (.inr hng)
  have hpt : mf.part = (part : Int) := Classical.not_not.1 hpt
  refine G.sln 1 ?_
  have hngood : ∀ (k nn : Nat), k < pcN z → nn = min 54 (z - 54 * k) → (∀ p : List UInt8, p.length = nn → dataB gen k p ≠ (S.get (f + (2 + n * 11) + 1 + k)).1) → ∀ m w, ¬ Good S f part gen n m w := fun k nn hk hnn hno m w hg => by
    have em := hsame m w hg
    have hwl : w.length = z := by have := hg.1.2.2.1; rw [em, hz] at this; omega
    refine hno (pcB w k) ?_ (hg.1.2.2.2.2 k (by rw [hwl]; exact hk))
    unfold pcB; rw [List.length_take, List.length_drop, hwl, hnn]
  repeat (first | refine xst ?_ | refine xar ?_ | refine xop ?_ | refine xlen ?_ | refine xld rfl ?_ | refine xsto rfl ?_ | refine xno ?_ | refine xt ?_ | refine xf ?_ | refine xnu ?_)
  refine G.loop (σ := Nat × Option Addr × Nat × List UInt8) (fun s__ => [(0, .pointer (some ⟨rb, off, none⟩)), (1, .int .i64 (part : Int)), (11, .int .i64 ((2 + n * 11 : Nat) : Int)), (14, .pointer (some ⟨p14, 0, none⟩)), (16, .slice s__.2.1 s__.2.2.2.length s__.2.2.1), (17, .int .i64 (s__.1 : Int))]) (fun s__ => [sl 1 s__.2.1 s__.2.2.2.length s__.2.2.1 (bsV s__.2.2.2), pts p14 mf.v, pts rb (pre ++ (Rg.v sp (Rg.hd (gen, n)) Ra.none ++ post))]) (fun s__ => s__.1 ≤ pcN z ∧ s__.2.2.2.length = min (54 * s__.1) z ∧ ∀ j, j < s__.1 → dataB gen j (pcB s__.2.2.2 j) = (S.get (f + (2 + n * 11) + 1 + j)).1) (fun s__ => pcN z - s__.1) (0, none, 0, []) ⟨Nat.zero_le _, by simp, fun j h => by omega⟩ (by repeat (first | exact trivial | refine ⟨rfl, ?_⟩)) (by show Ent _ [sl 1 none 0 0 [], pts p14 mf.v, pts rb (pre ++ (Rg.v sp (Rg.hd (gen, n)) Ra.none ++ post))]; exact ent_pick) ?_
  rintro ⟨k, A, c, w⟩ hI
  have hI : k ≤ pcN z ∧ w.length = min (54 * k) z ∧ ∀ j, j < k → dataB gen j (pcB w j) = (S.get (f + (2 + n * 11) + 1 + j)).1 := hI
  show G C _ [(0, .pointer (some ⟨rb, off, none⟩)), (1, .int .i64 (part : Int)), (11, .int .i64 ((2 + n * 11 : Nat) : Int)), (14, .pointer (some ⟨p14, 0, none⟩)), (16, .slice A w.length c), (17, .int .i64 (k : Int))] [sl 1 A w.length c (bsV w), pts p14 mf.v, pts rb (pre ++ (Rg.v sp (Rg.hd (gen, n)) Ra.none ++ post))]
  obtain ⟨hk, hwl, hpc⟩ := hI
  repeat (first | refine xst ?_ | refine xar ?_ | refine xop ?_ | refine xlen ?_ | refine xld rfl ?_ | refine xsto rfl ?_ | refine xno ?_ | refine xt ?_ | refine xf ?_ | refine xnu ?_)
  refine xd (q := (w.length : Int) < mf.size) (fun h => ?_) (fun h => ?_)
  · rw [hz] at h
    have hkz : 54 * k < z := by omega
    have hkN : k < pcN z := by unfold pcN; omega
    have hwk : w.length = 54 * k := by omega
    repeat (first | refine xst ?_ | refine xar ?_ | refine xop ?_ | refine xlen ?_ | refine xld rfl ?_ | refine xsto rfl ?_ | refine xno ?_ | refine xt ?_ | refine xf ?_ | refine xnu ?_)
    refine xld rfl ?_ (hv := at_ld hoff rfl)
    repeat (refine xnot 116 ?_; first | refine xst ?_ | refine xar ?_ | refine xop ?_ | refine xlen ?_ | refine xld rfl ?_ | refine xsto rfl ?_ | refine xno ?_ | refine xt ?_ | refine xf ?_ | refine xnu ?_)
    refine xE 116 (.int .i64 ((2 + n * 11 + 1 + k : Nat) : Int)) rfl (by first | exact congrArg (Value.int .i64) (by omega) | (refine congrArg (Value.int .i64) ?_; rw [show ((2 + n * 11 : Nat) : Int) + 1 + (k : Int) = ((2 + n * 11 + 1 + k : Nat) : Int) by omega]; exact wrap_nat (by omega))) ?_
    refine xcall (pread_spec sp f 24 d S ((2 + n * 11 + 1 + k : Nat) : Int) hp (by omega) (by decide)) ?_
    rintro v H ⟨a2, c2, rfl, rfl⟩
    refine G.app ?_
    have hrd := hread (2 + n * 11 + 1 + k) (by omega)
    have hadr : f + (2 + n * 11 + 1 + k) = f + (2 + n * 11) + 1 + k := by omega
    rw [hadr] at hrd
    obtain ⟨b, hb⟩ : ∃ b, (S.get (f + (2 + n * 11) + 1 + k)).1 = b := ⟨_, rfl⟩
    have hb64 : b.length = 64 := by rw [← hb]; exact (S.get _).2
    rw [hb] at hrd
    refine xE 117 (.tuple #[.slice a2 b.length c2, .int .i64 0]) rfl (by rw [hrd]) ?_
    refine xreH 0 (sl 1 a2 b.length c2 (bsV b)) rfl (by rw [hrd]) ?_
    refine xslf 0 rfl fun _ hc2 _ => ?_
    obtain ⟨nn, hnn⟩ : ∃ nn, nn = min 54 (z - 54 * k) := ⟨_, rfl⟩
    repeat (first | refine xst ?_ | refine xar ?_ | refine xop ?_ | refine xlen ?_ | refine xld rfl ?_ | refine xsto rfl ?_ | refine xno ?_ | refine xt ?_ | refine xf ?_ | refine xnu ?_)
    refine xdraw ?_
    refine xdop 0 ?_
    refine xdop 1 ?_
    refine xdop 2 ?_
    refine xdld 3 rfl rfl ?_ (hv := at_ld hoff rfl)
    refine xdop 4 ?_
    refine xdop 5 ?_
    refine xdld 6 rfl rfl ?_
    refine xdop 7 ?_
    refine xdlen 8 ?_
    (first | refine xdar 9 ?_ | refine xdop 9 ?_)
    refine xE 133 (.int .i64 ((z - w.length : Nat) : Int)) rfl (by first | exact congrArg (Value.int .i64) (by rw [hz]; omega) | (refine congrArg (Value.int .i64) ?_; rw [hz, show (z : Int) - (w.length : Int) = ((z - w.length : Nat) : Int) by omega]; exact wrap_nat (by omega))) ?_
    refine xdop 11 ?_
    refine xdact 10 ?_
    refine xmm ?_
    refine xE 134 (.int .i64 (nn : Int)) rfl (congrArg (Value.int .i64) (by unfold minI; split <;> omega)) ?_
    refine xst ?_
    refine xdact 12 ?_
    refine xcall (piece_spec gen k (by omega) nn (by omega) a2 b.length c2 b rfl hb64 hc2) ?_
    rintro v H (⟨p, a3, c3, hpl, hpd, rfl, rfl⟩ | ⟨a3, n3, c3, rfl, rfl, hno⟩)
    refine G.app ?_
    · skip
      refine xst ?_
      refine xdop 13 ?_
      refine xdop 14 ?_
      refine xdop 15 ?_
      refine xdop 16 ?_
      refine xdop 17 ?_
      refine xdend ?_
      repeat (first | refine xst ?_ | refine xar ?_ | refine xop ?_ | refine xlen ?_ | refine xld rfl ?_ | refine xsto rfl ?_ | refine xno ?_ | refine xt ?_ | refine xf ?_ | refine xnu ?_)
      refine xapp (bsV w) rfl (SrcOk.sl (by rw [bsV_length, hpl, Nat.mul_one]) (bsV_one _)) (by omega) fun a4 c4 => ?_
      repeat (first | refine xst ?_ | refine xar ?_ | refine xop ?_ | refine xlen ?_ | refine xld rfl ?_ | refine xsto rfl ?_ | refine xno ?_ | refine xt ?_ | refine xf ?_ | refine xnu ?_)
      have hwl' : (w ++ p).length = w.length + nn := by rw [List.length_append, hpl]
      refine G.fin (k + 1, a4, c4, w ++ p) ⟨⟨by show k + 1 ≤ _; omega, by show (w ++ p).length = min (54 * (k + 1)) z; omega, fun j hj => ?_⟩, by show pcN z - (k + 1) < pcN z - k; omega⟩ ⟨rfl, rfl, rfl, rfl, by rw [hwl']; rfl, rfl, trivial⟩ ?_
      · have hj : j < k + 1 := hj
        show dataB gen j (pcB (w ++ p) j) = _
        by_cases hjk : j < k
        · rw [pcB_append hjk hwk]; exact hpc j hjk
        · obtain rfl : j = k := by omega
          rw [pcB_last hwk (by omega), hpd, hb]
      · show Ent _ [sl 1 a4 (w ++ p).length c4 (bsV (w ++ p)), pts p14 mf.v, pts rb (pre ++ (Rg.v sp (Rg.hd (gen, n)) Ra.none ++ post))]
        rw [hwl', bsV_append]; exact ent_pick
    · refine G.app ?_
      refine xst ?_
      refine xdop 13 ?_
      refine xdop 14 ?_
      refine xdop 15 ?_
      refine xdop 16 ?_
      refine xdop 17 ?_
      refine xdend ?_
      repeat (first | refine xst ?_ | refine xar ?_ | refine xop ?_ | refine xlen ?_ | refine xld rfl ?_ | refine xsto rfl ?_ | refine xno ?_ | refine xt ?_ | refine xf ?_ | refine xnu ?_)
      refine G.sln 1 ?_
      refine xretp [4, 0] ?_
      exact hret (.inr (hngood k nn hkN hnn (fun p hp => by rw [hb]; exact hno p hp)))
  · have hwz : w.length = z := by omega
    have hkN : pcN z ≤ k := by unfold pcN; omega
    have hbank : BankIs S f gen n mf w := ⟨hmok, hms, by rw [hwz, hz], by rw [hb, hfirst], fun j hj => hpc j (by rw [hwz] at hj; omega)⟩
    have honly : ∀ m w', Good S f part gen n m w' → progF mf w = [] := fun m w' hg => by
      have em := hsame m w' hg
      have hwl' : w'.length = z := by have := hg.1.2.2.1; rw [em, hz] at this; omega
      have hww : w' = w := by
        have hpcs : ∀ j, j < pcN z → pcB w' j = pcB w j := fun j hj => by
          have h1 := hg.1.2.2.2.2 j (by rw [hwl']; exact hj)
          have h2 := hpc j (by omega)
          rw [← h2] at h1
          exact dataB_inj (by unfold pcB; rw [List.length_take, List.length_take, List.length_drop, List.length_drop, hwl', hwz]) (by unfold pcB; rw [List.length_take]; omega) h1
        exact pc_ext (hwl'.trans hwz.symm) (fun j hj => hpcs j (by rw [hwl'] at hj; exact hj))
      rw [← hww, ← em]; exact hg.2.2
    repeat (first | refine xst ?_ | refine xar ?_ | refine xop ?_ | refine xlen ?_ | refine xld rfl ?_ | refine xsto rfl ?_ | refine xno ?_ | refine xt ?_ | refine xf ?_ | refine xnu ?_)
    refine xld rfl ?_ (hv := partF_all rfl hml)
    repeat (first | refine xst ?_ | refine xar ?_ | refine xop ?_ | refine xlen ?_ | refine xld rfl ?_ | refine xsto rfl ?_ | refine xno ?_ | refine xt ?_ | refine xf ?_ | refine xnu ?_)
    refine xcall (icheck_spec mf hms A w.length c w rfl (by omega)) ?_
    rintro v H ⟨hoe, rfl⟩
    refine G.app ?_
    cases hpf : progF mf w with
    | nil =>
      refine G.fact (chain [] v) (P := v = .nilIface) (fun w F h => h) fun h => ?_
      subst h
      obtain ⟨q1, hq1⟩ : ∃ q : Rg, q = { Rg.hd (gen, n) with has := true } := ⟨_, rfl⟩
      obtain ⟨q2, hq2⟩ : ∃ q : Rg, q = { q1 with img := w } := ⟨_, rfl⟩
      obtain ⟨q3, hq3⟩ : ∃ q : Rg, q = { q2 with ver := mf.ver } := ⟨_, rfl⟩
      obtain ⟨A2, hA2⟩ : ∃ A2 : Ra, A2 = ⟨A, c, none, 0⟩ := ⟨_, rfl⟩
      have l1 : (Rg.v sp q1 Ra.none).length = 43 := by rw [hq1]; exact Rg.v_len rfl
      have l2 : (Rg.v sp q2 A2).length = 43 := by rw [hq2, hq1]; exact Rg.v_len rfl
      repeat (first | refine xst ?_ | refine xar ?_ | refine xop ?_ | refine xlen ?_ | refine xld rfl ?_ | refine xsto rfl ?_ | refine xno ?_ | refine xt ?_ | refine xf ?_ | refine xnu ?_)
      refine xdraw ?_
      refine xdop 0 ?_
      refine xdop 1 ?_
      refine xdop 2 ?_
      refine xdop 3 ?_
      refine xdop 4 ?_
      refine xdld 5 rfl rfl ?_
      refine xdop 6 ?_
      refine xdop 7 ?_
      refine xdact 8 ?_
      refine xsto rfl ?_ (hm := at_st (v' := Rg.v sp q1 Ra.none) hoff (by rw [hvl]; exact Nat.le_of_ble_eq_true rfl) (by rw [hq1]; rfl))
      refine xst ?_
      refine xdop 9 ?_
      refine xdop 10 ?_
      refine xdact 11 ?_
      refine xsto rfl ?_ (hm := at_st (v' := Rg.v sp q2 A2) hoff (by rw [l1]; exact Nat.le_of_ble_eq_true rfl) (by rw [hq2, hq1, hA2]; rfl))
      refine xst ?_
      refine xdop 12 ?_
      refine xdop 13 ?_
      refine xdact 14 ?_
      refine xsto rfl ?_ (hm := at_st (v' := Rg.v sp q3 A2) hoff (by rw [l2]; exact Nat.le_of_ble_eq_true rfl) (by rw [hq3, hq2, hq1, hA2]; rfl))
      refine xst ?_
      refine xdend ?_
      have hi : q3.img = w := by rw [hq3, hq2]
      refine xreH 1 (sl 1 A2.ia q3.img.length A2.ic (bsV q3.img)) rfl (by rw [hi, hA2]) ?_
      repeat (first | refine xst ?_ | refine xar ?_ | refine xop ?_ | refine xlen ?_ | refine xld rfl ?_ | refine xsto rfl ?_ | refine xno ?_ | refine xt ?_ | refine xf ?_ | refine xnu ?_)
      refine xretp [3, 0] ?_
      refine ⟨q3, A2, rfl, ⟨by rw [hq3, hq2, hq1]; exact hload, by rw [hq3, hq2, hq1]; rfl, by rw [hq3, hq2, hq1]; rfl, by rw [hq3, hq2, hq1]; rfl, .inl ⟨by rw [hq3, hq2, hq1], by rw [hq3, hq2, hq1]; exact hgne, mf, ?_, by rw [hq3]⟩⟩, ?_, by rw [hA2], by rw [hA2], rfl⟩
      · rw [hi, show q3.gen = gen by rw [hq3, hq2, hq1]; rfl, show q3.bank = n by rw [hq3, hq2, hq1]; rfl]
        exact ⟨hbank, hpt, hpf⟩
      · exact ⟨by rw [hq3, hq2, hq1]; rfl, by rw [hq3, hq2, hq1]; exact hn1, by rw [hi, hwz]; omega, by rw [hq3, hq2, hq1]; exact Nat.zero_le _⟩
    | cons qc r =>
      obtain ⟨cc, xx⟩ := qc
      refine G.fact (chain ((cc, xx) :: r) v) (P := ∃ b : Nat, v = .iface 179 (.pointer (some ⟨b, 0, none⟩))) (fun w F h => by obtain ⟨b, u, F1, F2, ⟨h1, h2⟩, _⟩ := h; exact ⟨b, h1⟩) fun h => ?_
      obtain ⟨eb, rfl⟩ := h
      repeat (first | refine xst ?_ | refine xar ?_ | refine xop ?_ | refine xlen ?_ | refine xld rfl ?_ | refine xsto rfl ?_ | refine xno ?_ | refine xt ?_ | refine xf ?_ | refine xnu ?_)
      refine G.sln 1 ?_
      refine xretp [4, 0] ?_
      exact hret (.inr (fun m w' hg => by have := honly m w' hg; rw [hpf] at this; cases this))
end Go.Proofs.YtdalmiacjicgpaaGreatDoor

/- loader: install. -/
namespace Go.Proofs.YtdalmiacjicgpaaGreatDoor
open Go.W

def wrGo (S : Dk) (f : Nat) : Nat → List (List UInt8) → Int × Dk
  | _, [] => (0, S)
  | at_, b :: r => if (pwriteF S f 24 (at_ : Int) b).1 ≠ 0 then pwriteF S f 24 (at_ : Int) b else wrGo (pwriteF S f 24 (at_ : Int) b).2 f (at_ + 1) r
def instF (S : Dk) (f : Nat) (gen : UInt32) (bank : Nat) (m : Man) (got : List UInt8) : Int × Dk :=
  let r1 := wrGo S f (2 + (1 - bank) * 11) (bankL (gen + 1) m got (pcN got.length))
  if r1.1 ≠ 0 then r1 else
    let r2 := r1.2.flush
    if r2.1 ≠ 0 then r2 else
      let r3 := pwriteF r2.2 f 24 (((gen + 1).toNat % 2 : Nat) : Int) (headB (gen + 1) (1 - bank))
      if r3.1 ≠ 0 then r3 else r3.2.flush
theorem wrGo_ok {f : Nat} : ∀ (l : List (List UInt8)) (at_ : Nat) {S : Dk}, S.ok → (wrGo S f at_ l).2.ok ∧ (wrGo S f at_ l).2.sec.length = S.sec.length ∧ (wrGo S f at_ l).2.pend.length ≤ S.pend.length + l.length
  | [], _, S, h => ⟨h, rfl, Nat.le_refl _⟩
  | b :: r, at_, S, h => by
    unfold wrGo
    have h1 := pwrite_ok h f 24 (at_ : Int) b
    have h2 := pwrite_len S f 24 (at_ : Int) b
    have h3 := pwrite_pend S f 24 (at_ : Int) b
    split
    · exact ⟨h1, h2, by rw [List.length_cons]; omega⟩
    · obtain ⟨g1, g2, g3⟩ := wrGo_ok r (at_ + 1) h1
      exact ⟨g1, g2.trans h2, by rw [List.length_cons]; omega⟩
theorem inst_ok {S : Dk} (h : S.ok) (f : Nat) (gen : UInt32) (bank : Nat) (m : Man) (got : List UInt8) : (instF S f gen bank m got).2.ok ∧ (instF S f gen bank m got).2.sec.length = S.sec.length ∧ (instF S f gen bank m got).2.pend.length ≤ S.pend.length + pcN got.length + 2 := by
  obtain ⟨g1, g2, g3⟩ := wrGo_ok (f := f) (bankL (gen + 1) m got (pcN got.length)) (2 + (1 - bank) * 11) h
  rw [bankL_len] at g3
  unfold instF
  simp only
  generalize wrGo S f (2 + (1 - bank) * 11) (bankL (gen + 1) m got (pcN got.length)) = r1 at g1 g2 g3 ⊢
  split
  · exact ⟨g1, g2, by omega⟩
  · have f1 := flush_ok g1
    have f2 := flush_len r1.2
    have f3 := flush_pend r1.2
    generalize r1.2.flush = r2 at f1 f2 f3 ⊢
    split
    · exact ⟨f1, f2.trans g2, by omega⟩
    · have p1 := pwrite_ok f1 f 24 (((gen + 1).toNat % 2 : Nat) : Int) (headB (gen + 1) (1 - bank))
      have p2 := pwrite_len r2.2 f 24 (((gen + 1).toNat % 2 : Nat) : Int) (headB (gen + 1) (1 - bank))
      have p3 := pwrite_pend r2.2 f 24 (((gen + 1).toNat % 2 : Nat) : Int) (headB (gen + 1) (1 - bank))
      generalize pwriteF r2.2 f 24 (((gen + 1).toNat % 2 : Nat) : Int) (headB (gen + 1) (1 - bank)) = r3 at p1 p2 p3 ⊢
      split
      · exact ⟨p1, p2.trans (f2.trans g2), by omega⟩
      · have := flush_pend r3.2
        exact ⟨flush_ok p1, (flush_len r3.2).trans (p2.trans (f2.trans g2)), by omega⟩
def instQ (q : Rg) (m : Man) (got : List UInt8) (e : Int) : Rg := if e = 0 then { q with gen := q.gen + 1, bank := 1 - q.bank, has := true, img := got, ver := m.ver } else q
def instA (A : Ra) (ga : Option Addr) (gc : Nat) (e : Int) : Ra := if e = 0 then { A with ia := ga, ic := gc } else A
set_option maxHeartbeats 2000000 in
theorem install_spec (rb off sp f d : Nat) (pre post : List Value) (hoff : pre.length = off) (S : Dk) (ok : S.ok) (hp : S.pend.length ≤ 900000) (hf : f ≤ 1000000) (q : Rg) (A : Ra) (hq : q.ok) (m : Man) (hms : m.sum.length = 32)
    (ga : Option Addr) (gn gc : Nat) (got : List UInt8) (hgn : gn = got.length) (hg5 : gn ≤ 5000) (hgc : gn ≤ gc) :
    Fun Tryz.prog 44 [.pointer (some ⟨rb, off, none⟩), .agg (stgV m (.slice ga gn gc)).toArray] [gNib, rdb sp (ptC f 24 d), slR 1 ga gn gc (bsV got)] [pts rb (pre ++ (Rg.v sp q A ++ post)), diskH d S]
    fun v H => v = .int .i64 (instF S f q.gen q.bank m got).1 ∧ H = [pts rb (pre ++ (Rg.v sp (instQ q m got (instF S f q.gen q.bank m got).1) (instA A ga gc (instF S f q.gen q.bank m got).1) ++ post)), diskH d (instF S f q.gen q.bank m got).2] := by
  subst hgn
  obtain ⟨hq1, hq2, hq3, hq4⟩ := hq
  refine xenter (p := pg) Tryz.call44 Tryz.func44 fun C => ?_
  haveI : RP C gNib := RP.of C (by simp)
  haveI := RP.rdb (RP.of C (X := rdb sp (ptC f 24 d)) (by simp))
  haveI := RP.slR (RP.of C (X := slR 1 ga got.length gc (bsV got)) (by simp))
  have hsl := stgV_len hms (.slice ga got.length gc)
  have hqv : (Rg.v sp q A).length = 43 := Rg.v_len hq1
  obtain ⟨g, hg⟩ : ∃ g, g = q.gen + 1 := ⟨_, rfl⟩
  obtain ⟨o, ho⟩ : ∃ o, o = 1 - q.bank := ⟨_, rfl⟩
  have ho1 : o ≤ 1 := by omega
  have hpn : pcN got.length ≤ 100 := by unfold pcN; omega
  refine xst ?_
  refine xst ?_
  refine xnew fun sb => ?_
  refine xrep 0 (stgV m (.slice ga got.length gc)) rfl rfl ?_
  repeat (first | refine xst ?_ | refine xar ?_ | refine xop ?_ | refine xlen ?_ | refine xld rfl ?_ | refine xsto rfl ?_ | refine xno ?_ | refine xt ?_ | refine xf ?_ | refine xnu ?_)
  refine xdraw ?_
  refine xdop 0 ?_
  refine xdop 1 ?_
  refine xdop 2 ?_
  refine xdld 3 rfl rfl ?_ (hv := at_ld hoff rfl)
  (first | refine xdar 4 ?_ | refine xdop 4 ?_)
  refine xE 17 (wV g) rfl (wE (by rw [hg]; exact w_add q.gen 1)) ?_
  refine xdop 5 ?_
  refine xdop 6 ?_
  refine xdop 7 ?_
  refine xdld 8 rfl rfl ?_ (hv := at_ld hoff rfl)
  (first | refine xdar 9 ?_ | refine xdop 9 ?_)
  refine xE 22 (.int .i64 (o : Int)) rfl (by first | exact congrArg (Value.int .i64) (by omega) | (refine congrArg (Value.int .i64) ?_; rw [show (1 : Int) - (q.bank : Int) = (o : Int) by omega]; exact wrap_nat (by omega))) ?_
  refine xdop 10 ?_
  refine xdop 11 ?_
  refine xdend ?_
  repeat (first | refine xst ?_ | refine xar ?_ | refine xop ?_ | refine xlen ?_ | refine xld rfl ?_ | refine xsto rfl ?_ | refine xno ?_ | refine xt ?_ | refine xf ?_ | refine xnu ?_)
  refine xld rfl ?_ (hv := stgV_man hms _ rfl rfl)
  repeat (first | refine xst ?_ | refine xar ?_ | refine xop ?_ | refine xlen ?_ | refine xld rfl ?_ | refine xsto rfl ?_ | refine xno ?_ | refine xt ?_ | refine xf ?_ | refine xnu ?_)
  refine xld rfl ?_ (hv := stgV_got hms _ rfl)
  refine xcall (bank_spec g m hms ga got.length gc got rfl hg5 hgc) ?_
  rintro v H ⟨a1, c1, Q, hQ, rfl, rfl⟩
  refine G.app ?_
  have hQl : Q.length = pcN got.length + 1 := by have := congrArg List.length hQ; rw [List.length_map, bankL_len] at this; exact this
  obtain ⟨N, hN⟩ : ∃ N, pcN got.length + 1 = N := ⟨_, rfl⟩
  obtain ⟨L, hL⟩ : ∃ L, L = bankL g m got (pcN got.length) := ⟨_, rfl⟩
  have hLl : L.length = N := by rw [hL, bankL_len, hN]
  obtain ⟨r1, hr1⟩ : ∃ r1, r1 = wrGo S f (2 + o * 11) L := ⟨_, rfl⟩
  obtain ⟨w1, w2, w3⟩ := wrGo_ok (f := f) L (2 + o * 11) ok
  rw [← hr1] at w1 w2 w3
  have hF : instF S f q.gen q.bank m got = if r1.1 ≠ 0 then r1 else if r1.2.flush.1 ≠ 0 then r1.2.flush else if (pwriteF r1.2.flush.2 f 24 ((g.toNat % 2 : Nat) : Int) (headB g o)).1 ≠ 0 then pwriteF r1.2.flush.2 f 24 ((g.toNat % 2 : Nat) : Int) (headB g o) else (pwriteF r1.2.flush.2 f 24 ((g.toNat % 2 : Nat) : Int) (headB g o)).2.flush := by
    unfold instF; rw [← hg, ← ho, ← hL, ← hr1]
  have hbad : ∀ (e : Int) (S' : Dk), e ≠ 0 → instF S f q.gen q.bank m got = (e, S') → Value.int .i64 e = .int .i64 (instF S f q.gen q.bank m got).1 ∧ [pts rb (pre ++ (Rg.v sp q A ++ post)), diskH d S'] = [pts rb (pre ++ (Rg.v sp (instQ q m got (instF S f q.gen q.bank m got).1) (instA A ga gc (instF S f q.gen q.bank m got).1) ++ post)), diskH d (instF S f q.gen q.bank m got).2] := fun e S' he h => by
    rw [h]; unfold instQ instA; rw [if_neg he, if_neg he]; exact ⟨rfl, rfl⟩
  rw [hN] at hQl
  refine xE 28 (.slice a1 N c1) rfl (by rw [hN]) ?_
  refine xreH 0 (sl 1 a1 N c1 (pzV Q)) rfl (by rw [hN]) ?_
  repeat (refine xnot 30 ?_; first | refine xst ?_ | refine xar ?_ | refine xop ?_ | refine xlen ?_ | refine xld rfl ?_ | refine xsto rfl ?_ | refine xno ?_ | refine xt ?_ | refine xf ?_ | refine xnu ?_)
  refine xst ?_
  refine G.cut (σ := Unit) (fun _ => [(0, .pointer (some ⟨rb, off, none⟩)), (3, .pointer (some ⟨sb, 0, none⟩)), (5, wV g), (6, .int .i64 (o : Int))]) (fun _ => [diskH d r1.2, pts sb (stgV m (.slice ga got.length gc)), pts rb (pre ++ (Rg.v sp q A ++ post))]) (fun _ => r1.1 = 0) ?_ ?_
  · repeat (first | refine xst ?_ | refine xar ?_ | refine xop ?_ | refine xlen ?_ | refine xld rfl ?_ | refine xsto rfl ?_ | refine xno ?_ | refine xt ?_ | refine xf ?_ | refine xnu ?_)
    refine G.loop (σ := Nat × Dk) (fun s__ => [(0, .pointer (some ⟨rb, off, none⟩)), (3, .pointer (some ⟨sb, 0, none⟩)), (5, wV g), (6, .int .i64 (o : Int)), (28, .slice a1 N c1), (29, .int .i64 (N : Int)), (30, .int .i64 (s__.1 : Int))]) (fun s__ => [starP (Q.map Pz.h), sl 1 a1 N c1 (pzV Q), diskH d s__.2, pts sb (stgV m (.slice ga got.length gc)), pts rb (pre ++ (Rg.v sp q A ++ post))]) (fun s__ => s__.1 ≤ N ∧ r1 = wrGo s__.2 f (2 + o * 11 + s__.1) (L.drop s__.1) ∧ s__.2.ok ∧ s__.2.pend.length ≤ S.pend.length + s__.1) (fun s__ => N - s__.1) (0, S) ⟨Nat.zero_le _, hr1, ok, Nat.le_refl _⟩ (by repeat (first | exact trivial | refine ⟨rfl, ?_⟩)) (by first | exact Ent.refl _ | exact ent_pick) ?_
    rintro ⟨i, T⟩ hI
    have hI : i ≤ N ∧ r1 = wrGo T f (2 + o * 11 + i) (L.drop i) ∧ T.ok ∧ T.pend.length ≤ S.pend.length + i := hI
    show G C _ [(0, .pointer (some ⟨rb, off, none⟩)), (3, .pointer (some ⟨sb, 0, none⟩)), (5, wV g), (6, .int .i64 (o : Int)), (28, .slice a1 N c1), (29, .int .i64 (N : Int)), (30, .int .i64 (i : Int))] [starP (Q.map Pz.h), sl 1 a1 N c1 (pzV Q), diskH d T, pts sb (stgV m (.slice ga got.length gc)), pts rb (pre ++ (Rg.v sp q A ++ post))]
    obtain ⟨hi, hv, Tok, Tp⟩ := hI
    repeat (first | refine xst ?_ | refine xar ?_ | refine xop ?_ | refine xlen ?_ | refine xld rfl ?_ | refine xsto rfl ?_ | refine xno ?_ | refine xt ?_ | refine xf ?_ | refine xnu ?_)
    refine xd (q := (i : Int) < (N : Int)) (fun h => ?_) (fun h => ?_)
    · have h : i < N := by omega
      have hiQ : i < Q.length := by omega
      have hiL : i < L.length := by omega
      have hLi : L[i] = Q[i].bs := by
        have : (Q.map (·.bs))[i]? = some Q[i].bs := by simp [hiQ]
        rw [hQ, ← hL, List.getElem?_eq_getElem hiL] at this
        exact Option.some.inj this
      have hget := pzV_get hiQ
      have hmem : Q[i].h ∈ Q.map Pz.h := List.mem_map_of_mem (List.getElem_mem hiQ)
      have hd : L.drop i = L[i] :: L.drop (i + 1) := List.drop_eq_getElem_cons hiL
      rw [hd, hLi, wrGo] at hv
      generalize Q[i] = z at hget hmem hv
      haveI hz : ∀ (R R' : List HProp) [Rem R (starP (Q.map Pz.h)) R'], RdOk C R (slR 1 z.a z.bs.length z.cap (bsV z.bs)) := fun R R' h => RdOk.star hmem h
      refine xslf 1 rfl fun q1 q2 q3 => ?_
      obtain ⟨pb, po, rfl⟩ := q3 (by omega)
      repeat (first | refine xst ?_ | refine xar ?_ | refine xop ?_ | refine xlen ?_ | refine xld rfl ?_ | refine xsto rfl ?_ | refine xno ?_ | refine xt ?_ | refine xf ?_ | refine xnu ?_)
      refine xix ?_ (hk := h)
      refine xldl rfl i hget ?_
      repeat (first | refine xst ?_ | refine xar ?_ | refine xop ?_ | refine xlen ?_ | refine xld rfl ?_ | refine xsto rfl ?_ | refine xno ?_ | refine xt ?_ | refine xf ?_ | refine xnu ?_)
      refine xdraw ?_
      refine xdop 0 ?_
      refine xdop 1 ?_
      refine xdop 2 ?_
      refine xdld 3 rfl rfl ?_ (hv := at_ld hoff rfl)
      refine xdop 4 ?_
      refine xdop 6 ?_
      refine xdop 8 ?_
      refine xdact 5 ?_
      refine xcall (bankAt_spec o (by omega)) ?_
      rintro v H ⟨rfl, rfl⟩
      refine G.app ?_
      refine xst ?_
      (first | refine xdar 7 ?_ | refine xdop 7 ?_)
      refine xE 42 (.int .i64 ((2 + o * 11 + i : Nat) : Int)) rfl (by first | exact congrArg (Value.int .i64) (by omega) | (refine congrArg (Value.int .i64) ?_; rw [show ((2 + o * 11 : Nat) : Int) + (i : Int) = ((2 + o * 11 + i : Nat) : Int) by omega]; exact wrap_nat (by omega))) ?_
      refine xdact 9 ?_
      refine xE 43 (.slice z.a z.bs.length z.cap) rfl rfl ?_
      refine xcall (pwrite_spec sp f 24 d T Tok ((2 + o * 11 + i : Nat) : Int) (by omega) hf (by decide) z.a z.bs.length z.cap z.bs rfl) ?_
      rintro v H ⟨rfl, rfl⟩
      refine G.app ?_
      obtain ⟨pw, hpw⟩ : ∃ pw, pwriteF T f 24 ((2 + o * 11 + i : Nat) : Int) z.bs = pw := ⟨_, rfl⟩
      have pok : pw.2.ok := by rw [← hpw]; exact pwrite_ok Tok _ _ _ _
      have ppl : pw.2.pend.length ≤ T.pend.length + 1 := by rw [← hpw]; exact pwrite_pend _ _ _ _ _
      rw [hpw] at hv
      refine xE 44 (.int .i64 pw.1) rfl (by rw [hpw]) ?_
      refine xreH 0 (diskH d pw.2) rfl (by rw [hpw]) ?_
      refine xst ?_
      refine xdop 10 ?_
      refine xdend ?_
      repeat (first | refine xst ?_ | refine xar ?_ | refine xop ?_ | refine xlen ?_ | refine xld rfl ?_ | refine xsto rfl ?_ | refine xno ?_ | refine xt ?_ | refine xf ?_ | refine xnu ?_)
      refine xd (q := pw.1 ≠ 0) (fun hne => ?_) (fun hne => ?_)
      · rw [if_pos hne] at hv
        repeat (first | refine xst ?_ | refine xar ?_ | refine xop ?_ | refine xlen ?_ | refine xld rfl ?_ | refine xsto rfl ?_ | refine xno ?_ | refine xt ?_ | refine xf ?_ | refine xnu ?_)
        refine xretp [4, 0] ?_
        exact hbad pw.1 pw.2 hne (by rw [hF, if_pos (by rw [hv]; exact hne), hv])
      · rw [if_neg hne] at hv
        repeat (first | refine xst ?_ | refine xar ?_ | refine xop ?_ | refine xlen ?_ | refine xld rfl ?_ | refine xsto rfl ?_ | refine xno ?_ | refine xt ?_ | refine xf ?_ | refine xnu ?_)
        exact G.fin (i + 1, pw.2) ⟨⟨by show i + 1 ≤ N; omega, by show r1 = wrGo pw.2 f (2 + o * 11 + (i + 1)) (L.drop (i + 1)); rw [hv, Nat.add_assoc], pok, by show pw.2.pend.length ≤ S.pend.length + (i + 1); omega⟩, by show N - (i + 1) < N - i; omega⟩ (by repeat (first | exact trivial | refine ⟨rfl, ?_⟩)) (by first | exact Ent.refl _ | exact ent_pick)
    · rw [List.drop_eq_nil_of_le (by omega)] at hv
      have hv : r1 = (0, T) := hv
      repeat (first | refine xst ?_ | refine xar ?_ | refine xop ?_ | refine xlen ?_ | refine xld rfl ?_ | refine xsto rfl ?_ | refine xno ?_ | refine xt ?_ | refine xf ?_ | refine xnu ?_)
      refine G.fin () (by show r1.1 = 0; rw [hv]) ⟨rfl, rfl, rfl, rfl, trivial⟩ ?_
      rw [hv]; exact ent_pick
  rintro _ hI
  have hI : r1.1 = 0 := hI
  show G C _ [(0, .pointer (some ⟨rb, off, none⟩)), (3, .pointer (some ⟨sb, 0, none⟩)), (5, wV g), (6, .int .i64 (o : Int))] [diskH d r1.2, pts sb (stgV m (.slice ga got.length gc)), pts rb (pre ++ (Rg.v sp q A ++ post))]
  rw [if_neg (by rw [hI]; decide)] at hF
  repeat (first | refine xst ?_ | refine xar ?_ | refine xop ?_ | refine xlen ?_ | refine xld rfl ?_ | refine xsto rfl ?_ | refine xno ?_ | refine xt ?_ | refine xf ?_ | refine xnu ?_)
  refine xld rfl ?_ (hv := at_ld hoff rfl)
  refine xcall (pflush_spec sp f 24 d r1.2 w1 (by omega)) ?_
  rintro v H ⟨rfl, rfl⟩
  refine G.app ?_
  have f1 := flush_ok w1
  have f3 := flush_pend r1.2
  obtain ⟨r2, hr2⟩ : ∃ r2, r1.2.flush = r2 := ⟨_, rfl⟩
  rw [hr2] at hF f1 f3
  refine xE 53 (.int .i64 r2.1) rfl (by rw [hr2]) ?_
  refine xreH 0 (diskH d r2.2) rfl (by rw [hr2]) ?_
  repeat (first | refine xst ?_ | refine xar ?_ | refine xop ?_ | refine xlen ?_ | refine xld rfl ?_ | refine xsto rfl ?_ | refine xno ?_ | refine xt ?_ | refine xf ?_ | refine xnu ?_)
  refine xd (q := r2.1 ≠ 0) (fun hne => ?_) (fun hne => ?_)
  · rw [if_pos hne] at hF
    repeat (first | refine xst ?_ | refine xar ?_ | refine xop ?_ | refine xlen ?_ | refine xld rfl ?_ | refine xsto rfl ?_ | refine xno ?_ | refine xt ?_ | refine xf ?_ | refine xnu ?_)
    refine xretp [2, 0] ?_
    exact hbad r2.1 r2.2 hne hF
  rw [if_neg hne] at hF
  repeat (first | refine xst ?_ | refine xar ?_ | refine xop ?_ | refine xlen ?_ | refine xld rfl ?_ | refine xsto rfl ?_ | refine xno ?_ | refine xt ?_ | refine xf ?_ | refine xnu ?_)
  refine xdraw ?_
  refine xdop 0 ?_
  refine xdop 1 ?_
  refine xdop 2 ?_
  refine xdld 3 rfl rfl ?_ (hv := at_ld hoff rfl)
  refine xdop 4 ?_
  refine xdop 5 ?_
  refine xE 62 (.int .u32 ((g.toNat % 2 : Nat) : Int)) rfl (congrArg (Value.int .u32) (tmodN _ _)) ?_
  (first | refine xdar 6 ?_ | refine xdop 6 ?_)
  refine xE 63 (.int .i64 ((g.toNat % 2 : Nat) : Int)) rfl (by first | rfl | exact congrArg (Value.int .i64) (wrap_nat (by omega))) ?_
  refine xdop 7 ?_
  refine xdop 8 ?_
  refine xdact 9 ?_
  refine xcall (headS_spec g o (by omega)) ?_
  rintro v H ⟨a2, c2, rfl, rfl⟩
  refine G.app ?_
  refine xst ?_
  refine xdact 10 ?_
  refine xcall (pwrite_spec sp f 24 d r2.2 f1 ((g.toNat % 2 : Nat) : Int) (by omega) hf (by decide) a2 (headB g o).length c2 (headB g o) rfl) ?_
  rintro v H ⟨rfl, rfl⟩
  refine G.app ?_
  obtain ⟨r3, hr3⟩ : ∃ r3, pwriteF r2.2 f 24 ((g.toNat % 2 : Nat) : Int) (headB g o) = r3 := ⟨_, rfl⟩
  have p1 : r3.2.ok := by rw [← hr3]; exact pwrite_ok f1 _ _ _ _
  have p3 : r3.2.pend.length ≤ r2.2.pend.length + 1 := by rw [← hr3]; exact pwrite_pend _ _ _ _ _
  rw [hr3] at hF
  refine xE 67 (.int .i64 r3.1) rfl (by rw [hr3]) ?_
  refine xreH 0 (diskH d r3.2) rfl (by rw [hr3]) ?_
  refine xst ?_
  refine xdop 11 ?_
  refine xdend ?_
  repeat (first | refine xst ?_ | refine xar ?_ | refine xop ?_ | refine xlen ?_ | refine xld rfl ?_ | refine xsto rfl ?_ | refine xno ?_ | refine xt ?_ | refine xf ?_ | refine xnu ?_)
  refine xd (q := r3.1 ≠ 0) (fun hne => ?_) (fun hne => ?_)
  · rw [if_pos hne] at hF
    repeat (first | refine xst ?_ | refine xar ?_ | refine xop ?_ | refine xlen ?_ | refine xld rfl ?_ | refine xsto rfl ?_ | refine xno ?_ | refine xt ?_ | refine xf ?_ | refine xnu ?_)
    refine xretp [3, 0] ?_
    exact hbad r3.1 r3.2 hne hF
  rw [if_neg hne] at hF
  repeat (first | refine xst ?_ | refine xar ?_ | refine xop ?_ | refine xlen ?_ | refine xld rfl ?_ | refine xsto rfl ?_ | refine xno ?_ | refine xt ?_ | refine xf ?_ | refine xnu ?_)
  refine xld rfl ?_ (hv := at_ld hoff rfl)
  refine xcall (pflush_spec sp f 24 d r3.2 p1 (by omega)) ?_
  rintro v H ⟨rfl, rfl⟩
  refine G.app ?_
  obtain ⟨r4, hr4⟩ : ∃ r4, r3.2.flush = r4 := ⟨_, rfl⟩
  rw [hr4] at hF
  refine xE 75 (.int .i64 r4.1) rfl (by rw [hr4]) ?_
  refine xreH 0 (diskH d r4.2) rfl (by rw [hr4]) ?_
  repeat (first | refine xst ?_ | refine xar ?_ | refine xop ?_ | refine xlen ?_ | refine xld rfl ?_ | refine xsto rfl ?_ | refine xno ?_ | refine xt ?_ | refine xf ?_ | refine xnu ?_)
  refine xd (q := r4.1 ≠ 0) (fun hne => ?_) (fun hne => ?_)
  · repeat (first | refine xst ?_ | refine xar ?_ | refine xop ?_ | refine xlen ?_ | refine xld rfl ?_ | refine xsto rfl ?_ | refine xno ?_ | refine xt ?_ | refine xf ?_ | refine xnu ?_)
    refine xretp [3, 0] ?_
    exact hbad r4.1 r4.2 hne hF
  have h0 : r4.1 = 0 := by omega
  obtain ⟨q1, hq1'⟩ : ∃ z : Rg, z = { q with gen := g } := ⟨_, rfl⟩
  obtain ⟨q2, hq2'⟩ : ∃ z : Rg, z = { q1 with bank := o } := ⟨_, rfl⟩
  obtain ⟨q3, hq3'⟩ : ∃ z : Rg, z = { q2 with has := true } := ⟨_, rfl⟩
  obtain ⟨q4, hq4'⟩ : ∃ z : Rg, z = { q3 with img := got } := ⟨_, rfl⟩
  obtain ⟨q5, hq5'⟩ : ∃ z : Rg, z = { q4 with ver := m.ver } := ⟨_, rfl⟩
  obtain ⟨A2, hA2⟩ : ∃ A2 : Ra, A2 = { A with ia := ga, ic := gc } := ⟨_, rfl⟩
  have l1 : (Rg.v sp q1 A).length = 43 := Rg.v_len (by rw [hq1']; exact hq1)
  have l2 : (Rg.v sp q2 A).length = 43 := Rg.v_len (by rw [hq2', hq1']; exact hq1)
  have l3 : (Rg.v sp q3 A).length = 43 := Rg.v_len (by rw [hq3', hq2', hq1']; exact hq1)
  have l4 : (Rg.v sp q4 A2).length = 43 := Rg.v_len (by rw [hq4', hq3', hq2', hq1']; exact hq1)
  repeat (first | refine xst ?_ | refine xar ?_ | refine xop ?_ | refine xlen ?_ | refine xld rfl ?_ | refine xsto rfl ?_ | refine xno ?_ | refine xt ?_ | refine xf ?_ | refine xnu ?_)
  refine xsto rfl ?_ (hm := at_st (v' := Rg.v sp q1 A) hoff (by rw [hqv]; exact Nat.le_of_ble_eq_true rfl) (by rw [hq1']; rfl))
  repeat (first | refine xst ?_ | refine xar ?_ | refine xop ?_ | refine xlen ?_ | refine xld rfl ?_ | refine xsto rfl ?_ | refine xno ?_ | refine xt ?_ | refine xf ?_ | refine xnu ?_)
  refine xsto rfl ?_ (hm := at_st (v' := Rg.v sp q2 A) hoff (by rw [l1]; exact Nat.le_of_ble_eq_true rfl) (by rw [hq2', hq1']; rfl))
  repeat (first | refine xst ?_ | refine xar ?_ | refine xop ?_ | refine xlen ?_ | refine xld rfl ?_ | refine xsto rfl ?_ | refine xno ?_ | refine xt ?_ | refine xf ?_ | refine xnu ?_)
  refine xdraw ?_
  refine xdop 0 ?_
  refine xdop 1 ?_
  refine xdop 2 ?_
  refine xdop 3 ?_
  refine xdld 4 rfl rfl ?_ (hv := stgV_got hms _ rfl)
  refine xdop 5 ?_
  refine xdop 6 ?_
  refine xdld 7 rfl rfl ?_
  refine xdop 8 ?_
  refine xdop 9 ?_
  refine xdact 10 ?_
  refine xsto rfl ?_ (hm := at_st (v' := Rg.v sp q3 A) hoff (by rw [l2]; exact Nat.le_of_ble_eq_true rfl) (by rw [hq3', hq2', hq1']; rfl))
  refine xst ?_
  refine xdop 11 ?_
  refine xdop 12 ?_
  refine xdact 13 ?_
  refine xsto rfl ?_ (hm := at_st (v' := Rg.v sp q4 A2) hoff (by rw [l3]; exact Nat.le_of_ble_eq_true rfl) (by rw [hq4', hq3', hq2', hq1', hA2]; rfl))
  refine xst ?_
  refine xdop 14 ?_
  refine xdop 15 ?_
  refine xdact 16 ?_
  refine xsto rfl ?_ (hm := at_st (v' := Rg.v sp q5 A2) hoff (by rw [l4]; exact Nat.le_of_ble_eq_true rfl) (by rw [hq5', hq4', hq3', hq2', hq1', hA2]; rfl))
  refine xst ?_
  refine xdend ?_
  repeat (first | refine xst ?_ | refine xar ?_ | refine xop ?_ | refine xlen ?_ | refine xld rfl ?_ | refine xsto rfl ?_ | refine xno ?_ | refine xt ?_ | refine xf ?_ | refine xnu ?_)
  refine xretp [3, 0] ?_
  rw [hF, h0]
  unfold instQ instA
  rw [if_pos rfl, if_pos rfl, hq5', hq4', hq3', hq2', hq1', hA2, ← hg, ← ho]
  exact ⟨rfl, rfl⟩
end Go.Proofs.YtdalmiacjicgpaaGreatDoor

/- loader: the loader in memory. -/
namespace Go.Proofs.YtdalmiacjicgpaaGreatDoor
open Go.W

structure Ld where
  r : Nat → Rg
  es : List Ntr
  dead : Bool
  ldead : Bool
def Ld.set (M : Ld) (p : Nat) (q : Rg) : Ld := { M with r := fun i => if i = p then q else M.r i }
structure Ld.ok (M : Ld) : Prop where
  r : ∀ i, (M.r i).ok
  got : ∀ i, (M.r i).got.length ≤ 5000
  es : M.es.length ≤ 12
  live : M.dead = false → M.ldead = false
def ldC (rb lp : Nat) (dead : Bool) : List Value := [.slice (some ⟨rb, 0, none⟩) 2 2, .pointer (some ⟨lp, 0, none⟩), .int .i64 12, .bool dead]
def ldL (l d rb lp s0 s1 s2 : Nat) (A0 A1 : Ra) (M : Ld) : List HProp :=
  [pts l (ldC rb lp M.dead), pts rb (Rg.v s0 (M.r 0) A0 ++ Rg.v s1 (M.r 1) A1), pts s2 (ptC 51 12 d), logH lp s2 M.es M.ldead,
   pts s0 (ptC 3 24 d), sl 1 A0.ia (M.r 0).img.length A0.ic (bsV (M.r 0).img), sl 1 A0.ga (M.r 0).got.length A0.gc (bsV (M.r 0).got),
   pts s1 (ptC 27 24 d), sl 1 A1.ia (M.r 1).img.length A1.ic (bsV (M.r 1).img), sl 1 A1.ga (M.r 1).got.length A1.gc (bsV (M.r 1).got)]
def loaderH (l d : Nat) (M : Ld) : HProp := exP fun rb : Nat => exP fun lp : Nat => exP fun s0 : Nat => exP fun s1 : Nat => exP fun s2 : Nat => exP fun A0 : Ra => exP fun A1 : Ra => starP (ldL l d rb lp s0 s1 s2 A0 A1 M)
theorem loader_fold {l d rb lp s0 s1 s2 : Nat} {A0 A1 : Ra} {M : Ld} (w : World) (F : Foot) (h : Sat (ldL l d rb lp s0 s1 s2 A0 A1 M) w F) : (loaderH l d M).holds w F := ⟨rb, lp, s0, s1, s2, A0, A1, h⟩
/-- With one partition in the foreground. -/
def ldF (l d rb lp s2 : Nat) (p off sp so : Nat) (pre post : List Value) (q : Rg) (A : Ra) (qo : Rg) (Ao : Ra) (es : List Ntr) (dead ldead : Bool) : List HProp :=
  [pts l (ldC rb lp dead), pts rb (pre ++ (Rg.v sp q A ++ post)), pts s2 (ptC 51 12 d), logH lp s2 es ldead,
   pts sp (ptC (3 + 24 * p) 24 d), sl 1 A.ia q.img.length A.ic (bsV q.img), sl 1 A.ga q.got.length A.gc (bsV q.got),
   pts so (ptC (27 - 24 * p) 24 d), sl 1 Ao.ia qo.img.length Ao.ic (bsV qo.img), sl 1 Ao.ga qo.got.length Ao.gc (bsV qo.got)]
section
variable {fn : Func} {rd : List HProp} {post' : Post} {C : Ctx pg fn rd post'} {K : List It} {L : Env} {H : List HProp}
theorem G.ld (l d : Nat) {M : Ld} {R : List HProp} [pk : Rem H (loaderH l d M) R] (ok : M.ok) (p : Nat) (hp : p < 2)
    (k : ∀ rb lp s2 off sp so pre post A qo Ao, off = 43 * p → pre.length = off → qo = M.r (1 - p) →
      (∀ q' A' es' dead' ldead' w F, Sat (ldF l d rb lp s2 p off sp so pre post q' A' qo Ao es' dead' ldead') w F → (loaderH l d { M.set p q' with es := es', dead := dead', ldead := ldead' }).holds w F) →
      G C K L (ldF l d rb lp s2 p off sp so pre post (M.r p) A qo Ao M.es M.dead M.ldead ++ R)) : G C K L H := by
  refine fun act w F ha hs hf => ?_
  obtain ⟨F1, F2, ⟨rb, lp, s0, s1, s2, A0, A1, h⟩, h2, hd, h3, h4⟩ := pk.ent w F hs
  have hl0 : (Rg.v s0 (M.r 0) A0).length = 43 := Rg.v_len (ok.r 0).1
  match p, hp with
  | 0, _ =>
    refine k rb lp s2 0 s0 s1 [] (Rg.v s1 (M.r 1) A1) A0 (M.r 1) A1 rfl rfl rfl (fun q' A' es' dead' ldead' w F h => ⟨rb, lp, s0, s1, s2, A', A1, h⟩) act w F ha (Sat.append.2 ⟨F1, F2, h, h2, hd, h3, h4⟩ : Sat (ldL l d rb lp s0 s1 s2 A0 A1 M ++ R) w F) hf
  | 1, _ =>
    have e : ∀ q', Rg.v s0 (M.r 0) A0 ++ (q' ++ []) = Rg.v s0 (M.r 0) A0 ++ q' := fun q' => by rw [List.append_nil]
    refine k rb lp s2 43 s1 s0 (Rg.v s0 (M.r 0) A0) [] A1 (M.r 0) A0 rfl hl0 rfl (fun q' A' es' dead' ldead' w F h => ⟨rb, lp, s0, s1, s2, A0, A', ?_⟩) act w F ha ?_ hf
    · have h := h
      unfold ldF at h
      rw [e] at h
      have hent : Ent [pts l (ldC rb lp dead'), pts rb (Rg.v s0 (M.r 0) A0 ++ Rg.v s1 q' A'), pts s2 (ptC 51 12 d), logH lp s2 es' ldead', pts s1 (ptC (3 + 24 * 1) 24 d), sl 1 A'.ia q'.img.length A'.ic (bsV q'.img), sl 1 A'.ga q'.got.length A'.gc (bsV q'.got), pts s0 (ptC (27 - 24 * 1) 24 d), sl 1 A0.ia (M.r 0).img.length A0.ic (bsV (M.r 0).img), sl 1 A0.ga (M.r 0).got.length A0.gc (bsV (M.r 0).got)]
        [pts l (ldC rb lp dead'), pts rb (Rg.v s0 (M.r 0) A0 ++ Rg.v s1 q' A'), pts s2 (ptC 51 12 d), logH lp s2 es' ldead', pts s0 (ptC (27 - 24 * 1) 24 d), sl 1 A0.ia (M.r 0).img.length A0.ic (bsV (M.r 0).img), sl 1 A0.ga (M.r 0).got.length A0.gc (bsV (M.r 0).got), pts s1 (ptC (3 + 24 * 1) 24 d), sl 1 A'.ia q'.img.length A'.ic (bsV q'.img), sl 1 A'.ga q'.got.length A'.gc (bsV q'.got)] := ent_pick
      exact hent w F h
    · have hent : Ent (ldL l d rb lp s0 s1 s2 A0 A1 M) (ldF l d rb lp s2 1 43 s1 s0 (Rg.v s0 (M.r 0) A0) [] (M.r 1) A1 (M.r 0) A0 M.es M.dead M.ldead) := by
        unfold ldF ldL
        rw [e]
        show Ent [pts l (ldC rb lp M.dead), pts rb (Rg.v s0 (M.r 0) A0 ++ Rg.v s1 (M.r 1) A1), pts s2 (ptC 51 12 d), logH lp s2 M.es M.ldead, pts s0 (ptC (27 - 24 * 1) 24 d), sl 1 A0.ia (M.r 0).img.length A0.ic (bsV (M.r 0).img), sl 1 A0.ga (M.r 0).got.length A0.gc (bsV (M.r 0).got), pts s1 (ptC (3 + 24 * 1) 24 d), sl 1 A1.ia (M.r 1).img.length A1.ic (bsV (M.r 1).img), sl 1 A1.ga (M.r 1).got.length A1.gc (bsV (M.r 1).got)] _
        exact ent_pick
      exact Sat.append.2 ⟨F1, F2, hent w F1 h, h2, hd, h3, h4⟩
theorem ld_rd {l d : Nat} {M : Ld} (h : RP C (loaderH l d M)) (ok : M.ok) (p : Nat) (hp : p < 2) : ∃ rb lp s2 sp pre post A, pre.length = 43 * p ∧ RB C l (ldC rb lp M.dead) ∧ RB C rb (pre ++ (Rg.v sp (M.r p) A ++ post)) ∧ RP C (logH lp s2 M.es M.ldead) ∧ RS C 1 A.ia (M.r p).img.length A.ic (bsV (M.r p).img) := by
  obtain ⟨rb, h⟩ := RP.ex (f := fun rb : Nat => exP fun lp : Nat => exP fun s0 : Nat => exP fun s1 : Nat => exP fun s2 : Nat => exP fun A0 : Ra => exP fun A1 : Ra => starP (ldL l d rb lp s0 s1 s2 A0 A1 M)) h
  obtain ⟨lp, h⟩ := h.ex
  obtain ⟨s0, h⟩ := h.ex
  obtain ⟨s1, h⟩ := h.ex
  obtain ⟨s2, h⟩ := h.ex
  obtain ⟨A0, h⟩ := h.ex
  obtain ⟨A1, h⟩ := h.ex
  have h := h.star
  have hl0 : (Rg.v s0 (M.r 0) A0).length = 43 := Rg.v_len (ok.r 0).1
  have hrb : RB C rb (Rg.v s0 (M.r 0) A0 ++ Rg.v s1 (M.r 1) A1) := (h _ (by simp [ldL])).pts
  match p, hp with
  | 0, _ => exact ⟨rb, lp, s2, s0, [], _, A0, rfl, (h _ (by simp [ldL])).pts, hrb, h _ (by simp [ldL]), (h _ (by simp [ldL])).sl⟩
  | 1, _ => exact ⟨rb, lp, s2, s1, _, [], A1, hl0, (h _ (by simp [ldL])).pts, by rw [List.append_nil]; exact hrb, h _ (by simp [ldL]), (h _ (by simp [ldL])).sl⟩
end
/-- Which partition is named. -/
def pnF (k : Int) : Option Nat := if 0 ≤ k ∧ k < 2 then some k.toNat else none
theorem pn_some {k : Int} {p : Nat} (h : pnF k = some p) : p < 2 ∧ k = (p : Int) := by
  unfold pnF at h
  split at h
  · have := Option.some.inj h; omega
  · cases h
theorem pn_none {k : Int} (h : pnF k = none) : k < 0 ∨ 2 ≤ k := by
  unfold pnF at h
  split at h
  · cases h
  · omega
def rgP (rb : Nat) : Option Nat → Value
  | some p => .pointer (some ⟨rb, 43 * p, none⟩)
  | none => .pointer none
theorem region_spec (l rb lp : Nat) (dead : Bool) (k : Int) (o : Option Nat) (hk : pnF k = o) : Fun Tryz.prog 38 [.pointer (some ⟨l, 0, none⟩), .int .i64 k] [rdb l (ldC rb lp dead)] [] fun v H => v = rgP rb o ∧ H = [] := by
  refine xenter (p := pg) Tryz.call38 Tryz.func38 fun C => ?_
  haveI := RP.rdb (RP.of C (X := rdb l (ldC rb lp dead)) (by simp))
  cases o with
  | none =>
    have hk := pn_none hk
    repeat (refine xnot 6 ?_; first | refine xst ?_ | refine xar ?_ | refine xop ?_ | refine xlen ?_ | refine xld rfl ?_ | refine xsto rfl ?_ | refine xno ?_ | refine xt ?_ | refine xf ?_ | refine xnu ?_)
    by_cases h0 : k < 0
    · refine xE 6 (.bool true) rfl (congrArg Value.bool (decide_eq_true h0)) ?_
      repeat (first | refine xst ?_ | refine xar ?_ | refine xop ?_ | refine xlen ?_ | refine xld rfl ?_ | refine xsto rfl ?_ | refine xno ?_ | refine xt ?_ | refine xf ?_ | refine xnu ?_)
      exact xret [] ⟨rfl, rfl⟩
    · refine xE 6 (.bool false) rfl (congrArg Value.bool (decide_eq_false h0)) ?_
      repeat (refine xnot 14 ?_; first | refine xst ?_ | refine xar ?_ | refine xop ?_ | refine xlen ?_ | refine xld rfl ?_ | refine xsto rfl ?_ | refine xno ?_ | refine xt ?_ | refine xf ?_ | refine xnu ?_)
      refine xE 14 (.bool true) rfl (congrArg Value.bool (decide_eq_true (by omega))) ?_
      repeat (first | refine xst ?_ | refine xar ?_ | refine xop ?_ | refine xlen ?_ | refine xld rfl ?_ | refine xsto rfl ?_ | refine xno ?_ | refine xt ?_ | refine xf ?_ | refine xnu ?_)
      exact xret [] ⟨rfl, rfl⟩
  | some p =>
    obtain ⟨hp, rfl⟩ := pn_some hk
    repeat (refine xnot 6 ?_; first | refine xst ?_ | refine xar ?_ | refine xop ?_ | refine xlen ?_ | refine xld rfl ?_ | refine xsto rfl ?_ | refine xno ?_ | refine xt ?_ | refine xf ?_ | refine xnu ?_)
    refine xE 6 (.bool false) rfl (congrArg Value.bool (decide_eq_false (by omega))) ?_
    repeat (refine xnot 14 ?_; first | refine xst ?_ | refine xar ?_ | refine xop ?_ | refine xlen ?_ | refine xld rfl ?_ | refine xsto rfl ?_ | refine xno ?_ | refine xt ?_ | refine xf ?_ | refine xnu ?_)
    refine xE 14 (.bool false) rfl (congrArg Value.bool (decide_eq_false (by omega))) ?_
    repeat (first | refine xst ?_ | refine xar ?_ | refine xop ?_ | refine xlen ?_ | refine xld rfl ?_ | refine xsto rfl ?_ | refine xno ?_ | refine xt ?_ | refine xf ?_ | refine xnu ?_)
    refine xix ?_ (hk := hp)
    refine xE 21 (.pointer (some ⟨rb, 43 * p, none⟩)) rfl (by show Value.pointer (some ⟨rb, offAt 0 p 43, none⟩) = _; rw [show offAt 0 p 43 = 43 * p by show 0 + p * 43 = 43 * p; omega]) ?_
    repeat (first | refine xst ?_ | refine xar ?_ | refine xop ?_ | refine xlen ?_ | refine xld rfl ?_ | refine xsto rfl ?_ | refine xno ?_ | refine xt ?_ | refine xf ?_ | refine xnu ?_)
    exact xret [] ⟨rfl, rfl⟩
end Go.Proofs.YtdalmiacjicgpaaGreatDoor
