/- Part of the proof: LAs, LFa, LBy, LOc, LOd, LCo, LCp -/
import Derived.Test.YthlaacnjgdmakaaDoorK4
import Derived.Test.YthlaacnjgdmakaaDoorK2
import Derived.WalkKit
import Derived.LaidEql
import Derived.Stop.Asserts
import Derived.RowKitTokens
/- errors.As at the concrete target '*fault.Fault': the two ways (after the guide's worked text ToyasAs, turned to this translation's numbers), and fault.outermost above it. -/
namespace Go.Proofs.YthlaacnjgdmakaaDoor
open Go.RowKit Go.Extern.Stop Go.Stop Go.Extern

/-- errors.As(nil, target). -/
theorem as_nil (t : Value) (w : World) :
    Calls Tryd.prog 92 #[.nilIface, t] w fun e w' => e = .returned (.bool false) ∧ w' = w := by
  go_enter Tryd.func92, Tryd.ntmps92
  go_wp2
  go_ret
  exact ⟨rfl, rfl⟩

/-! ### CLOSED FACTS ON THE MODEL's ENTRIES FOR internal/reflectlite, at this program's types: 25: *p.E · 27: **p.E · 23: error · 45: reflectlite's rtype · 1: how many package-level variables the dump has -/
theorem As.valueOf27 (t : Addr) (w : World) : (ReflectliteValue.unpack (.iface 159 (.pointer (some t)))).run Tryd.prog w
    = .ok (.agg #[.pointer (some ⟨7, 159, none⟩), .pointer (some ⟨w.heap.size, 0, none⟩), .int .u64 150]) (w.alloc (.cells #[.pointer (some t)] 159)) := by kernel_rfl
theorem As.type27 (a : Addr) (w : World) : (ReflectliteValue.methodAny (ReflectliteValue.valueError "reflectlite.Value.Type" 0) (fun t _ _ _ => ReflectliteType.toType t) #[.agg #[.pointer (some ⟨7, 159, none⟩), .pointer (some a), .int .u64 150]]).run Tryd.prog w
    = .ok (.iface 188 (.agg #[.pointer (some ⟨7, 159, none⟩)])) w := by kernel_rfl
theorem As.methodKind (h : Value) (w : World) : (Go.method 338 188 (.agg #[h]) "Kind").run Tryd.prog w = .ok (137, h) w := by kernel_rfl
theorem As.kind27 (w : World) : ((ReflectliteType.abiMethod fun t => (fun a : Nat => Value.int IntKind.u8 (a : Int)) <$> Rtype.kind t) #[.pointer (some ⟨7, 159, none⟩)]).run Tryd.prog w = .ok (.int .u8 22) w := by kernel_rfl
theorem As.kind25 (w : World) : ((ReflectliteType.abiMethod fun t => (fun a : Nat => Value.int IntKind.u8 (a : Int)) <$> Rtype.kind t) #[.pointer (some ⟨7, 128, none⟩)]).run Tryd.prog w = .ok (.int .u8 22) w := by kernel_rfl

/-! ### THE ENTRIES THAT READ OR WRITE MEMORY: laws with a premise on the cell (after Derived/Lib/ReflectliteSlice.lean's manner: each unfolding a lemma of its own, by rfl) -/
theorem rlm (z : Sem Value) (f : TypeId → Addr → Nat → Nat → Sem Value) (v : Value) :
    ReflectliteValue.method z f #[v] = (do match ← ReflectliteValue.parts v with | none => z | some (t, a, fl) => f t a fl (fl % 32)) := rfl
theorem As.parts27 (a : Addr) (w : World) : (ReflectliteValue.parts (.agg #[.pointer (some ⟨7, 159, none⟩), .pointer (some a), .int .u64 150])).run Tryd.prog w = .ok (some (159, a, 150)) w := by kernel_rfl
/-- (Value).IsNil at the Value of a **p.E that is not nil. -/
theorem As.isNil27 (a p : Addr) (W : World) (ha : W.cell? a = some (.pointer (some p))) :
    (ReflectliteValue.method (ReflectliteValue.valueError "reflectlite.Value.IsNil" 0) ReflectliteValue.isNil #[.agg #[.pointer (some ⟨7, 159, none⟩), .pointer (some a), .int .u64 150]]).run Tryd.prog W = .ok (.bool false) W := by
  rw [rlm]
  simp only [Sem.run_bind, As.parts27, Result.andThen]
  simp [ReflectliteValue.isNil, loadVar, isAgg, underlying, Tryd.underlying159, ha, Result.andThen]

theorem As.methodElem (h : Value) (w : World) : (Go.method 338 188 (.agg #[h]) "Elem").run Tryd.prog w = .ok (151, .agg #[h]) w := by kernel_rfl
theorem As.methodImplements (h : Value) (w : World) : (Go.method 338 188 (.agg #[h]) "Implements").run Tryd.prog w = .ok (152, .agg #[h]) w := by kernel_rfl
theorem As.methodAssignableTo (h : Value) (w : World) : (Go.method 338 188 (.agg #[h]) "AssignableTo").run Tryd.prog w = .ok (149, .agg #[h]) w := by kernel_rfl
theorem As.elem27 (w : World) : (ReflectliteType.method ReflectliteType.elem #[.agg #[.pointer (some ⟨7, 159, none⟩)]]).run Tryd.prog w = .ok (.iface 188 (.agg #[.pointer (some ⟨7, 128, none⟩)])) w := by kernel_rfl
theorem As.implements25 (w : World) : (ReflectliteType.relation "Implements" ReflectliteType.implements_ #[.agg #[.pointer (some ⟨7, 128, none⟩)], .iface 188 (.agg #[.pointer (some ⟨7, 54, none⟩)])]).run Tryd.prog w = .ok (.bool true) w := by kernel_rfl
theorem As.typeOf25 (v : Value) (w : World) : (ReflectliteType.typeOf #[.iface 128 v]).run Tryd.prog w = .ok (.iface 188 (.agg #[.pointer (some ⟨7, 128, none⟩)])) w := by kernel_rfl
theorem As.assignable25 (w : World) : (ReflectliteType.relation "AssignableTo" ReflectliteType.assignableTo #[.agg #[.pointer (some ⟨7, 128, none⟩)], .iface 188 (.agg #[.pointer (some ⟨7, 128, none⟩)])]).run Tryd.prog w = .ok (.bool true) w := by kernel_rfl
theorem As.valueOf25 (e : Addr) (w : World) : (ReflectliteValue.unpack (.iface 128 (.pointer (some e)))).run Tryd.prog w
    = .ok (.agg #[.pointer (some ⟨7, 128, none⟩), .pointer (some ⟨w.heap.size, 0, none⟩), .int .u64 150]) (w.alloc (.cells #[.pointer (some e)] 128)) := by kernel_rfl

theorem As.elemOf27 (w : World) : (Rtype.elem? 159).run Tryd.prog w = .ok (some 128) w := by kernel_rfl
theorem As.mk25 (p : Addr) (w : World) : (ReflectliteValue.mk 128 p ReflectliteValue.flagAddr).run Tryd.prog w = .ok (.agg #[.pointer (some ⟨7, 128, none⟩), .pointer (some p), .int .u64 406]) w := by kernel_rfl
/-- (Value).Elem at the Value of a **p.E that is not nil: the Value of the *p.E variable that it points to, addressable. -/
theorem As.elemV27 (a p : Addr) (W : World) (ha : W.cell? a = some (.pointer (some p))) :
    (ReflectliteValue.method (ReflectliteValue.valueError "reflectlite.Value.Elem" 0) ReflectliteValue.elem #[.agg #[.pointer (some ⟨7, 159, none⟩), .pointer (some a), .int .u64 150]]).run Tryd.prog W
      = .ok (.agg #[.pointer (some ⟨7, 128, none⟩), .pointer (some p), .int .u64 406]) W := by
  rw [rlm]
  simp only [Sem.run_bind, As.parts27, Result.andThen]
  simp [ReflectliteValue.elem, loadVar, isAgg, underlying, Tryd.underlying159, ha, Result.andThen, As.elemOf27, As.mk25]
theorem rls (v x : Value) : ReflectliteValue.set #[v, x] = (do
    let (some (dst, a, fl), some (src, b, _)) := (← ReflectliteValue.parts v, ← ReflectliteValue.parts x)
      | unsupported (.noEntry "extern/(internal/reflectlite.Value).Set.zeroValue")
    if fl / ReflectliteValue.flagAddr % 2 == 0 then unsupported (.noEntry "extern/(internal/reflectlite.Value).Set.unaddressable")
    let val ← loadVar src b
    if ← Rtype.directlyAssignable dst src then storeVar dst a val
    else if ← Rtype.implements dst src then
      if (← Rtype.kind src) == 20 then
        match val with
        | .nilIface => unsupported (.noEntry "extern/reflectlite: a nil value of one interface type handed on as a value of another")
        | _ => storeVar dst a val
      else storeVar dst a (.iface src val)
    else panicString ("reflectlite.Set: value of type " ++ (← Rtype.spelt src) ++ " is not assignable to type " ++ (← Rtype.spelt dst))
    pure (.tuple #[])) := rfl
theorem As.parts25a (a : Addr) (w : World) : (ReflectliteValue.parts (.agg #[.pointer (some ⟨7, 128, none⟩), .pointer (some a), .int .u64 406])).run Tryd.prog w = .ok (some (128, a, 406)) w := by kernel_rfl
theorem As.parts25 (a : Addr) (w : World) : (ReflectliteValue.parts (.agg #[.pointer (some ⟨7, 128, none⟩), .pointer (some a), .int .u64 150])).run Tryd.prog w = .ok (some (128, a, 150)) w := by kernel_rfl
theorem As.direct25 (w : World) : (Rtype.directlyAssignable 128 128).run Tryd.prog w = .ok true w := by kernel_rfl
theorem As.size25 (w : World) : (sizeOf 128).run Tryd.prog w = .ok 1 w := by kernel_rfl
/-- (Value).Set: the *p.E variable at 'ta' gets what the Value's own variable 'b' holds. -/
theorem As.set25 (ta b e : Addr) (old : Value) (W : World) (hb : W.cell? b = some (.pointer (some e))) (ht : W.cell? ta = some old) (hf : W.frozen? ta = false) :
    (ReflectliteValue.set #[.agg #[.pointer (some ⟨7, 128, none⟩), .pointer (some ta), .int .u64 406], .agg #[.pointer (some ⟨7, 128, none⟩), .pointer (some b), .int .u64 150]]).run Tryd.prog W
      = .ok (.tuple #[]) (W.setCell ta (.pointer (some e))) := by
  rw [rls]
  simp only [Sem.run_bind, As.parts25a, As.parts25, Result.andThen]
  simp [ReflectliteValue.flagAddr, loadVar, isAgg, underlying, Tryd.underlying128, hb, Result.andThen, As.direct25, storeVar, Value.cells, storeCells, Addr.add]
  rw [run_store Tryd.prog W ta _ _ (by rfl)]
  simp [ht, hf]

set_option maxHeartbeats 4000000 in
theorem as_hit (e t : Addr) (old : Value) (w : World) (hg : w.cell? ⟨2, 0, none⟩ = some (.iface 188 (.agg #[.pointer (some ⟨7, 54, none⟩)]))) (ht0 : w.cell? t = some old) (hf0 : w.frozen? t = false) :
    Calls Tryd.prog 92 #[.iface 128 (.pointer (some e)), .iface 159 (.pointer (some t))] w fun ev w' => ev = .returned (.bool true) ∧ w' = ((((w.alloc (.cells #[.pointer (some t)] 159)).alloc (.cells #[.pointer (some ⟨7, 159, none⟩), .pointer (some ⟨w.heap.size, 0, none⟩), .int .u64 150] 173)).alloc (.cells #[.pointer (some ⟨7, 159, none⟩), .pointer (some ⟨w.heap.size, 0, none⟩), .int .u64 150] 173)).alloc (.cells #[.pointer (some e)] 128)).setCell t (.pointer (some e)) := by
  have h6 := @run_callFunc_extern Tryd.prog 100 _ (fun args => ReflectliteValue.unpack (args.getD 0 (.tuple #[]))) Tryd.func100 (by kernel_rfl) (by kernel_rfl) (by kernel_rfl) (by kernel_rfl)
  have h7 := @run_callFunc_extern Tryd.prog 101 _ (ReflectliteValue.methodAny (ReflectliteValue.valueError "reflectlite.Value.Type" 0) (fun t _ _ _ => ReflectliteType.toType t)) Tryd.func101 (by kernel_rfl) (by kernel_rfl) (by kernel_rfl) (by kernel_rfl)
  have h8 := @run_callFunc_extern Tryd.prog 102 _ (ReflectliteValue.method (ReflectliteValue.valueError "reflectlite.Value.IsNil" 0) ReflectliteValue.isNil) Tryd.func102 (by kernel_rfl) (by kernel_rfl) (by kernel_rfl) (by kernel_rfl)
  have h27 := @run_callFunc_extern Tryd.prog 137 _ (ReflectliteType.abiMethod fun t => do pure (.int .u8 (← Rtype.kind t))) Tryd.func137 (by kernel_rfl) (by kernel_rfl) (by kernel_rfl) (by kernel_rfl)
  have h37 := @run_callFunc_extern Tryd.prog 151 _ (ReflectliteType.method ReflectliteType.elem) Tryd.func151 (by kernel_rfl) (by kernel_rfl) (by kernel_rfl) (by kernel_rfl)
  have h38 := @run_callFunc_extern Tryd.prog 152 _ (ReflectliteType.relation "Implements" ReflectliteType.implements_) Tryd.func152 (by kernel_rfl) (by kernel_rfl) (by kernel_rfl) (by kernel_rfl)
  have h10 := @run_callFunc_extern Tryd.prog 108 _ ReflectliteType.typeOf Tryd.func108 (by kernel_rfl) (by kernel_rfl) (by kernel_rfl) (by kernel_rfl)
  have h35 := @run_callFunc_extern Tryd.prog 149 _ (ReflectliteType.relation "AssignableTo" ReflectliteType.assignableTo) Tryd.func149 (by kernel_rfl) (by kernel_rfl) (by kernel_rfl) (by kernel_rfl)
  have h11 := @run_callFunc_extern Tryd.prog 109 _ (ReflectliteValue.method (ReflectliteValue.valueError "reflectlite.Value.Elem" 0) ReflectliteValue.elem) Tryd.func109 (by kernel_rfl) (by kernel_rfl) (by kernel_rfl) (by kernel_rfl)
  have h12 := @run_callFunc_extern Tryd.prog 110 _ ReflectliteValue.set Tryd.func110 (by kernel_rfl) (by kernel_rfl) (by kernel_rfl) (by kernel_rfl)
  have tO := As.typeOf25
  have mA := As.methodAssignableTo
  have a25 := As.assignable25
  have v25 := As.valueOf25
  have f6 := As.valueOf27
  have f7 := As.type27
  have mK := As.methodKind
  have mE := As.methodElem
  have mI := As.methodImplements
  have k27 := As.kind27
  have k25 := As.kind25
  have e27 := As.elem27
  have i25 := As.implements25
  have n8 := As.isNil27 ⟨w.heap.size, 0, none⟩ t ((w.alloc (.cells #[.pointer (some t)] 159)).alloc (.cells #[.pointer (some ⟨7, 159, none⟩), .pointer (some ⟨w.heap.size, 0, none⟩), .int .u64 150] 173)) (by simp)
  have hlt : 2 < w.heap.size := by
    rcases Nat.lt_or_ge 2 w.heap.size with h | h
    · exact h
    · simp [World.cell?, Array.getElem?_eq_none h] at hg
  have hg2 : ((w.alloc (.cells #[.pointer (some t)] 159)).alloc (.cells #[.pointer (some ⟨7, 159, none⟩), .pointer (some ⟨w.heap.size, 0, none⟩), .int .u64 150] 173)).cell? ⟨2, 0, none⟩ = some (.iface 188 (.agg #[.pointer (some ⟨7, 54, none⟩)])) := by
    rw [World.cell?_alloc_lt _ _ ⟨2, 0, none⟩ (by simp; omega), World.cell?_alloc_lt _ _ ⟨2, 0, none⟩ hlt]; exact hg
  have htl : t.block < w.heap.size := by
    rcases Nat.lt_or_ge t.block w.heap.size with h | h
    · exact h
    · simp [World.cell?, Array.getElem?_eq_none h] at ht0
  have el := As.elemV27 ⟨w.heap.size, 0, none⟩ t (((w.alloc (.cells #[.pointer (some t)] 159)).alloc (.cells #[.pointer (some ⟨7, 159, none⟩), .pointer (some ⟨w.heap.size, 0, none⟩), .int .u64 150] 173)).alloc (.cells #[.pointer (some ⟨7, 159, none⟩), .pointer (some ⟨w.heap.size, 0, none⟩), .int .u64 150] 173)) (by rw [World.cell?_alloc_lt _ _ ⟨w.heap.size, 0, none⟩ (by simp; omega)]; simp)
  have st := As.set25 t ⟨w.heap.size + 1 + 1 + 1, 0, none⟩ e old ((((w.alloc (.cells #[.pointer (some t)] 159)).alloc (.cells #[.pointer (some ⟨7, 159, none⟩), .pointer (some ⟨w.heap.size, 0, none⟩), .int .u64 150] 173)).alloc (.cells #[.pointer (some ⟨7, 159, none⟩), .pointer (some ⟨w.heap.size, 0, none⟩), .int .u64 150] 173)).alloc (.cells #[.pointer (some e)] 128))
    (by rw [World.cell?_alloc_at _ _ _ _ (by simp)]; rfl)
    (by rw [World.cell?_alloc_lt _ _ t (by simp; omega), World.cell?_alloc_lt _ _ t (by simp; omega), World.cell?_alloc_lt _ _ t (by simp; omega), World.cell?_alloc_lt _ _ t htl]; exact ht0)
    (by rw [World.frozen?_alloc_old _ _ t (by simp; omega), World.frozen?_alloc_old _ _ t (by simp; omega), World.frozen?_alloc_old _ _ t (by simp; omega), World.frozen?_alloc_old _ _ t (Nat.ne_of_lt htl)]; exact hf0)
  go_enter Tryd.func92, Tryd.ntmps92
  go_wp2
  refine wp_loop_rounds 1 ?_
  rw [rounds_succ]
  go_wp2
  go_ret
  exact ⟨rfl, rfl⟩

end Go.Proofs.YthlaacnjgdmakaaDoor

/- fault: errors with positions. -/
namespace Go.Proofs.YthlaacnjgdmakaaDoor
open Go.W

/-- The variable of errors that holds the handle of the type 'error'. -/
def gErr : HProp := rdb 2 [.iface 188 (.agg #[.pointer (some ⟨7, 54, none⟩)])]

theorem as_nil_spec (t : Value) : Fun Tryd.prog 92 [.nilIface, t] [] [] fun v H => v = .bool false ∧ H = [] := by
  refine ⟨Tryd.call92, fun w F _ _ hi => (as_nil t w).mono ?_⟩
  rintro e w' ⟨rfl, rfl⟩
  exact ⟨_, _, F, rfl, ⟨rfl, rfl⟩, trivial, Fr.refl hi⟩

theorem as_hit_spec (e : Addr) (b : Nat) (old : Value) : Fun Tryd.prog 92 [.iface 128 (.pointer (some e)), .iface 159 (.pointer (some ⟨b, 0, none⟩))] [gErr] [pts b [old]]
    fun v H => v = .bool true ∧ H = [pts b [.pointer (some e)]] := by
  refine ⟨Tryd.call92, fun w F hrd hs hi => ?_⟩
  obtain ⟨S, ⟨_, hg⟩, _⟩ := hrd gErr (by simp)
  obtain ⟨F1, F2, ⟨hb, ho⟩, _, _, hF1, _⟩ := hs
  refine (as_hit e ⟨b, 0, none⟩ old w (hg.cell rfl) (ho.blk.cell rfl) (ho.free (by simp))).mono ?_
  rintro ev w' ⟨rfl, rfl⟩
  have hbl := ho.blk.lt
  have key : ∀ (w1 : World), w.heap.size ≤ w1.heap.size → (∀ c, c < w.heap.size → w1.heap[c]? = w.heap[c]?) → w1.tape = w.tape → w1.os = w.os → w1.output = w.output →
      Res w F (fun v H => v = .bool true ∧ H = [pts b [.pointer (some e)]]) (.returned (.bool true)) (w1.setCell ⟨b, 0, none⟩ (.pointer (some e))) := by
    intro w1 hsz hk ht hos hout
    have ho1 : ownAt w1 b [old] := by
      obtain ⟨T, lo, hi', h1, h2⟩ := ho
      exact ⟨T, lo, hi', by rw [hk b hbl]; exact h1, h2⟩
    refine ⟨_, _, F, rfl, ⟨rfl, rfl⟩, ⟨F, fun _ => False, ⟨hF1 b hb, by simpa using ho1.set 0 (.pointer (some e))⟩, trivial, fun _ _ h => h, fun _ h => h, fun _ h => h.elim⟩, ?_⟩
    refine ⟨by rw [setCell_size]; exact hsz, fun c hc hn => ?_, fun _ h _ => h, fun c hc => by rw [setCell_size]; exact Nat.lt_of_lt_of_le (hi c hc) hsz, ht, hos, hout⟩
    rw [setCell_other (by rintro rfl; exact hn (hF1 _ hb)), hk c hc]
  refine key _ (by simp; omega) (fun c hc => ?_) rfl rfl rfl
  simp only [World.alloc]
  rw [Array.getElem?_push_lt (by simp; omega), ← Array.getElem?_eq_getElem, Array.getElem?_push_lt (by simp; omega), ← Array.getElem?_eq_getElem, Array.getElem?_push_lt (by simp; omega), ← Array.getElem?_eq_getElem,
    Array.getElem?_push_lt hc, ← Array.getElem?_eq_getElem]

/-- An error's chain: codes and positions. -/
def chain : List (Int × Int) → Value → HProp
  | [], v => pureP (v = .nilIface)
  | (c, a) :: l, v => exP fun b : Nat => exP fun u : Value => starP [pureP (v = .iface 128 (.pointer (some ⟨b, 0, none⟩)) ∧ oneC u = true), pts b [.int .i64 c, .int .i64 a, u], chain l u]

theorem outer_nil : Fun Tryd.prog 65 [.nilIface] [] [] fun v H => v = .pointer none ∧ H = [] := by
  refine xenter (p := pg) Tryd.call65 Tryd.func65 fun C => ?_
  repeat (first | refine xst ?_ | refine xar ?_ | refine xop ?_ | refine xlen ?_ | refine xld rfl ?_ | refine xsto rfl ?_ | refine xno ?_ | refine xt ?_ | refine xf ?_)
  refine xnew fun b => ?_
  repeat (first | refine xst ?_ | refine xar ?_ | refine xop ?_ | refine xlen ?_ | refine xld rfl ?_ | refine xsto rfl ?_ | refine xno ?_ | refine xt ?_ | refine xf ?_)
  refine xcall (as_nil_spec _) ?_
  rintro v H ⟨rfl, rfl⟩
  refine G.app ?_
  repeat (first | refine xst ?_ | refine xar ?_ | refine xop ?_ | refine xlen ?_ | refine xld rfl ?_ | refine xsto rfl ?_ | refine xno ?_ | refine xt ?_ | refine xf ?_)
  exact xret [] ⟨rfl, rfl⟩
theorem outer_hit (e : Addr) : Fun Tryd.prog 65 [.iface 128 (.pointer (some e))] [gErr] [] fun v H => v = .pointer (some e) ∧ H = [] := by
  refine xenter (p := pg) Tryd.call65 Tryd.func65 fun C => ?_
  haveI := RP.of C (X := gErr) (by simp)
  repeat (first | refine xst ?_ | refine xar ?_ | refine xop ?_ | refine xlen ?_ | refine xld rfl ?_ | refine xsto rfl ?_ | refine xno ?_ | refine xt ?_ | refine xf ?_)
  refine xnew fun b => ?_
  repeat (first | refine xst ?_ | refine xar ?_ | refine xop ?_ | refine xlen ?_ | refine xld rfl ?_ | refine xsto rfl ?_ | refine xno ?_ | refine xt ?_ | refine xf ?_)
  refine xcall (as_hit_spec e b (.pointer none)) ?_
  rintro v H ⟨rfl, rfl⟩
  refine G.app ?_
  repeat (first | refine xst ?_ | refine xar ?_ | refine xop ?_ | refine xlen ?_ | refine xld rfl ?_ | refine xsto rfl ?_ | refine xno ?_ | refine xt ?_ | refine xf ?_)
  exact xret [] ⟨rfl, rfl⟩

def newF (c a : Int) : List (Int × Int) := if c = 0 then [] else [(c, a)]
def inF (l : List (Int × Int)) (a : Int) : List (Int × Int) := match l with | [] => [] | (c, _) :: _ => (c, a) :: l
def codeF (l : List (Int × Int)) : Int := match l with | [] => 0 | (c, _) :: _ => c

theorem chain_nil (w : World) (F : Foot) : (chain [] .nilIface).holds w F := rfl
theorem chain_cons {c a : Int} {l : List (Int × Int)} {b : Nat} {u : Value} (hu : oneC u = true) (w : World) (F : Foot) (h : Sat [pts b [.int .i64 c, .int .i64 a, u], chain l u] w F) :
    (chain ((c, a) :: l) (.iface 128 (.pointer (some ⟨b, 0, none⟩)))).holds w F :=
  ⟨b, u, fun _ => False, F, ⟨rfl, hu⟩, h, fun _ h => h.elim, fun _ h => h.elim, fun _ h => h⟩

theorem new_spec (c a : Int) : Fun Tryd.prog 47 [.int .i64 c, .int .i64 a] [] [] fun v H => H = [chain (newF c a) v] := by
  refine xenter (p := pg) Tryd.call47 Tryd.func47 fun C => ?_
  repeat (first | refine xst ?_ | refine xar ?_ | refine xop ?_ | refine xlen ?_ | refine xld rfl ?_ | refine xsto rfl ?_ | refine xno ?_ | refine xt ?_ | refine xf ?_)
  refine xd (fun h => ?_) (fun h => ?_)
  · repeat (first | refine xst ?_ | refine xar ?_ | refine xop ?_ | refine xlen ?_ | refine xld rfl ?_ | refine xsto rfl ?_ | refine xno ?_ | refine xt ?_ | refine xf ?_)
    refine G.fold (chain [] .nilIface) [] (fun w F _ => chain_nil w F) ?_
    refine xret [chain [] .nilIface] ?_
    simp [newF, h, resV]
  · repeat (first | refine xst ?_ | refine xar ?_ | refine xop ?_ | refine xlen ?_ | refine xld rfl ?_ | refine xsto rfl ?_ | refine xno ?_ | refine xt ?_ | refine xf ?_)
    refine xnew fun b => ?_
    repeat (first | refine xst ?_ | refine xar ?_ | refine xop ?_ | refine xlen ?_ | refine xld rfl ?_ | refine xsto rfl ?_ | refine xno ?_ | refine xt ?_ | refine xf ?_)
    refine G.fold (chain [] .nilIface) [] (fun w F _ => chain_nil w F) ?_
    refine G.fold _ [pts b [.int .i64 c, .int .i64 a, .nilIface], chain [] .nilIface] (fun w F h => chain_cons rfl w F h) ?_
    refine xretp [0] ?_
    simp [newF, h, resV]

/-- The chain of an error that is read: what it holds, in memory. -/
theorem chain_rd {fn : Func} {rd : List HProp} {post : Post} {C : Ctx pg fn rd post} {c a : Int} {l : List (Int × Int)} {v : Value} (h : RP C (chain ((c, a) :: l) v)) :
    ∃ b u, v = .iface 128 (.pointer (some ⟨b, 0, none⟩)) ∧ oneC u = true ∧ RB C b [.int .i64 c, .int .i64 a, u] ∧ RP C (chain l u) := by
  obtain ⟨b, h⟩ := RP.ex (f := fun b : Nat => exP fun u : Value => starP [pureP (v = .iface 128 (.pointer (some ⟨b, 0, none⟩)) ∧ oneC u = true), pts b [.int .i64 c, .int .i64 a, u], chain l u]) h
  obtain ⟨u, h⟩ := h.ex
  have h := h.star
  have h1 := (h _ List.mem_cons_self).pure
  exact ⟨b, u, h1.1, h1.2, (h _ (by simp)).pts, h _ (by simp)⟩
theorem chain_rd0 {fn : Func} {rd : List HProp} {post : Post} {C : Ctx pg fn rd post} {v : Value} (h : RP C (chain [] v)) : v = .nilIface := RP.pure h

theorem outer_spec (l : List (Int × Int)) (v : Value) : Fun Tryd.prog 65 [v] [gErr, chain l v] [] fun u H => H = [] ∧
    match l with | [] => u = .pointer none | _ => ∃ b, v = .iface 128 (.pointer (some ⟨b, 0, none⟩)) ∧ u = .pointer (some ⟨b, 0, none⟩) := by
  refine ⟨Tryd.call65, fun w F hrd hs hi => ?_⟩
  obtain ⟨S, hch, hS⟩ := hrd (chain l v) (by simp)
  cases l with
  | nil =>
    have hv : v = .nilIface := hch
    subst hv
    exact (outer_nil.mono fun v H h => ⟨h.2, h.1⟩).calls w F Rd.nil hs hi
  | cons q l =>
    obtain ⟨c, a⟩ := q
    obtain ⟨b, u, F1, F2, ⟨hv, _⟩, _⟩ := hch
    subst hv
    exact ((outer_hit ⟨b, 0, none⟩).mono fun v H h => ⟨h.2, b, rfl, h.1⟩).calls w F (fun r hr => hrd r (by simp at hr; simp [hr])) hs hi

theorem code_spec (l : List (Int × Int)) (v : Value) : Fun Tryd.prog 46 [v] [gErr, chain l v] [] fun u H => u = .int .i64 (codeF l) ∧ H = [] := by
  refine xenter (p := pg) Tryd.call46 Tryd.func46 fun C => ?_
  haveI := RP.of C (X := gErr) (by simp)
  haveI hc := RP.of C (X := chain l v) (by simp)
  repeat (first | refine xst ?_ | refine xar ?_ | refine xop ?_ | refine xlen ?_ | refine xld rfl ?_ | refine xsto rfl ?_ | refine xno ?_ | refine xt ?_ | refine xf ?_)
  refine xcall (outer_spec l v) ?_
  rintro u H ⟨rfl, h⟩
  refine G.app ?_
  cases l with
  | nil =>
    subst h
    repeat (first | refine xst ?_ | refine xar ?_ | refine xop ?_ | refine xlen ?_ | refine xld rfl ?_ | refine xsto rfl ?_ | refine xno ?_ | refine xt ?_ | refine xf ?_)
    refine xret [] ⟨rfl, rfl⟩
  | cons q l =>
    obtain ⟨c, a⟩ := q
    obtain ⟨b, hv, rfl⟩ := h
    obtain ⟨b', u', hv', _, hb, _⟩ := chain_rd hc
    rw [hv] at hv'
    simp at hv'
    subst hv'
    repeat (first | refine xst ?_ | refine xar ?_ | refine xop ?_ | refine xlen ?_ | refine xld rfl ?_ | refine xsto rfl ?_ | refine xno ?_ | refine xt ?_ | refine xf ?_)
    refine xret [] ⟨rfl, rfl⟩

theorem in_spec (l : List (Int × Int)) (v : Value) (a : Int) (hv : oneC v = true) : Fun Tryd.prog 58 [v, .int .i64 a] [gErr] [chain l v] fun u H => H = [chain (inF l a) u] := by
  refine xenter (p := pg) Tryd.call58 Tryd.func58 fun C => ?_
  haveI := RP.of C (X := gErr) (by simp)
  cases l with
  | nil =>
    refine G.fact (chain [] v) (P := v = .nilIface) (fun w F h => h) fun h => ?_
    subst h
    repeat (first | refine xst ?_ | refine xar ?_ | refine xop ?_ | refine xlen ?_ | refine xld rfl ?_ | refine xsto rfl ?_ | refine xno ?_ | refine xt ?_ | refine xf ?_)
    exact xret [chain [] .nilIface] rfl
  | cons q l =>
    obtain ⟨c, a0⟩ := q
    refine G.fact (chain ((c, a0) :: l) v) (P := ∃ b : Nat, v = .iface 128 (.pointer (some ⟨b, 0, none⟩))) (fun w F h => by obtain ⟨b, u, F1, F2, ⟨h1, h2⟩, _⟩ := h; exact ⟨b, h1⟩) fun h => ?_
    obtain ⟨b, rfl⟩ := h
    repeat (first | refine xst ?_ | refine xar ?_ | refine xop ?_ | refine xlen ?_ | refine xld rfl ?_ | refine xsto rfl ?_ | refine xno ?_ | refine xt ?_ | refine xf ?_)
    refine xcall (code_spec ((c, a0) :: l) _) ?_
    rintro u H ⟨hu, rfl⟩
    simp only [codeF] at hu
    subst hu
    refine G.app ?_
    repeat (first | refine xst ?_ | refine xar ?_ | refine xop ?_ | refine xlen ?_ | refine xld rfl ?_ | refine xsto rfl ?_ | refine xno ?_ | refine xt ?_ | refine xf ?_)
    refine xnew fun b2 => ?_
    repeat (first | refine xst ?_ | refine xar ?_ | refine xop ?_ | refine xlen ?_ | refine xld rfl ?_ | refine xsto rfl ?_ | refine xno ?_ | refine xt ?_ | refine xf ?_)
    refine G.fold _ [pts b2 [.int .i64 c, .int .i64 a, .iface 128 (.pointer (some ⟨b, 0, none⟩))], chain ((c, a0) :: l) (.iface 128 (.pointer (some ⟨b, 0, none⟩)))] (fun w F h => chain_cons rfl w F h) ?_
    refine xretp [0] ?_
    simp [inF, resV]

/-- fault.Path -/
def posV (l : List (Int × Int)) : List Value := l.map fun q => .int .i64 q.2
structure PathSt where
  rest : List (Int × Int)
  done : List (Int × Int)
  a : Option Addr
  cap : Nat
  ptr : Value
def PathI {fn : Func} {rd : List HProp} {post : Post} (C : Ctx pg fn rd post) (l : List (Int × Int)) (s : PathSt) : Prop :=
  s.done ++ s.rest = l ∧ match s.rest with
    | [] => s.ptr = .pointer none
    | (c, x) :: r => ∃ b u, s.ptr = .pointer (some ⟨b, 0, none⟩) ∧ oneC u = true ∧ RB C b [.int .i64 c, .int .i64 x, u] ∧ RP C (chain r u)
theorem path_spec (l : List (Int × Int)) (v : Value) (hl : l.length ≤ 1000000) : Fun Tryd.prog 45 [v] [gErr, chain l v] [] fun u H => ∃ a cap, u = .slice a l.length cap ∧ H = [sl 1 a l.length cap (posV l)] := by
  refine xenter (p := pg) Tryd.call45 Tryd.func45 fun C => ?_
  haveI := RP.of C (X := gErr) (by simp)
  haveI hc := RP.of C (X := chain l v) (by simp)
  repeat (first | refine xst ?_ | refine xar ?_ | refine xop ?_ | refine xlen ?_ | refine xld rfl ?_ | refine xsto rfl ?_ | refine xno ?_ | refine xt ?_ | refine xf ?_)
  refine xcall (outer_spec l v) ?_
  rintro u H ⟨rfl, h⟩
  refine G.app ?_
  refine G.sln 1 ?_
  have h0 : PathI C l ⟨l, [], none, 0, u⟩ := by
    refine ⟨rfl, ?_⟩
    cases l with
    | nil => exact h
    | cons q l =>
      obtain ⟨c, a⟩ := q
      obtain ⟨b, hv, rfl⟩ := h
      obtain ⟨b', u', hv', hu', hb, hr⟩ := chain_rd hc
      rw [hv] at hv'
      simp at hv'
      subst hv'
      exact ⟨b, u', rfl, hu', hb, hr⟩
  have hu : ∃ x, u = .pointer x := by
    cases l with
    | nil => exact ⟨_, h⟩
    | cons q l => obtain ⟨b, _, h⟩ := h; exact ⟨_, h⟩
  obtain ⟨x, rfl⟩ := hu
  repeat (first | refine xst ?_ | refine xar ?_ | refine xop ?_ | refine xlen ?_ | refine xld rfl ?_ | refine xsto rfl ?_ | refine xno ?_ | refine xt ?_ | refine xf ?_)
  refine G.loop (σ := PathSt) (fun s => [(3, .slice s.a s.done.length s.cap), (4, s.ptr)]) (fun s => [sl 1 s.a s.done.length s.cap (posV s.done)]) (PathI C l) (fun s => s.rest.length) ⟨l, [], none, 0, .pointer x⟩ h0 ⟨rfl, rfl, trivial⟩ (Ent.refl _) ?_
  rintro ⟨rest, done, a, cap, ptr⟩ ⟨h1, h2⟩
  cases rest with
  | nil =>
    obtain rfl : ptr = .pointer none := h2
    show G C _ [(3, .slice a done.length cap), (4, .pointer none)] [sl 1 a done.length cap (posV done)]
    repeat (first | refine xst ?_ | refine xar ?_ | refine xop ?_ | refine xlen ?_ | refine xld rfl ?_ | refine xsto rfl ?_ | refine xno ?_ | refine xt ?_ | refine xf ?_)
    refine xretp [0] ?_
    obtain rfl : done = l := by simpa using h1
    exact ⟨a, cap, rfl, rfl⟩
  | cons q r =>
    obtain ⟨c, y⟩ := q
    obtain ⟨b, u, rfl, hu, hb, hr⟩ := h2
    have hlen : done.length + (r.length + 1) = l.length := by have := congrArg List.length h1; simpa using this
    show G C _ [(3, .slice a done.length cap), (4, .pointer (some ⟨b, 0, none⟩))] [sl 1 a done.length cap (posV done)]
    repeat (first | refine xst ?_ | refine xar ?_ | refine xop ?_ | refine xlen ?_ | refine xld rfl ?_ | refine xsto rfl ?_ | refine xno ?_ | refine xt ?_ | refine xf ?_)
    refine xbsl fun b3 => ?_
    repeat (first | refine xst ?_ | refine xar ?_ | refine xop ?_ | refine xlen ?_ | refine xld rfl ?_ | refine xsto rfl ?_ | refine xno ?_ | refine xt ?_ | refine xf ?_)
    refine xapp (posV done) rfl (SrcOk.blk (ys := [.int .i64 y]) rfl (by simp) (by simp [Value.oneCell'])) (by omega) fun a' cap' => ?_
    repeat (first | refine xst ?_ | refine xar ?_ | refine xop ?_ | refine xlen ?_ | refine xld rfl ?_ | refine xsto rfl ?_ | refine xno ?_ | refine xt ?_ | refine xf ?_)
    refine xcall (outer_spec r u) ?_
    rintro w H ⟨rfl, h⟩
    refine G.app ?_
    have hw : ∃ x, w = .pointer x := by
      cases r with
      | nil => exact ⟨_, h⟩
      | cons q l => obtain ⟨b, _, h⟩ := h; exact ⟨_, h⟩
    obtain ⟨x', rfl⟩ := hw
    repeat (first | refine xst ?_ | refine xar ?_ | refine xop ?_ | refine xlen ?_ | refine xld rfl ?_ | refine xsto rfl ?_ | refine xno ?_ | refine xt ?_ | refine xf ?_)
    refine G.fin ⟨r, done ++ [(c, y)], a', cap', .pointer x'⟩ ⟨⟨by simpa using h1, ?_⟩, by simp⟩ ⟨by rw [List.length_append]; rfl, rfl, trivial⟩ ?_
    · cases r with
      | nil => exact h
      | cons q r =>
        obtain ⟨c', a''⟩ := q
        obtain ⟨b', hv, h⟩ := h
        obtain ⟨b'', u', hv', hu', hb', hr'⟩ := chain_rd hr
        rw [hv] at hv'
        simp at hv'
        subst hv'
        exact ⟨b', u', h, hu', hb', hr'⟩
    · show Ent _ [sl 1 a' (done ++ [(c, y)]).length cap' (posV (done ++ [(c, y)]))]
      rw [show posV (done ++ [(c, y)]) = posV done ++ [.int .i64 y] by simp [posV], List.length_append]
      exact ent_pick
end Go.Proofs.YthlaacnjgdmakaaDoor

/- Bytes and numbers: plain. -/
namespace Go.W

/-- The low bytes of a number, the least one first. -/
def putB (n m : Nat) : List UInt8 := (List.range m).map fun i => UInt8.ofNat (n / 2 ^ (8 * i))
/-- The number that bytes are. -/
def numB : List UInt8 → Nat
  | [] => 0
  | x :: l => x.toNat + 256 * numB l

theorem putB_length (n m : Nat) : (putB n m).length = m := by simp [putB]
theorem putB_get (n m k : Nat) (h : k < (putB n m).length) : (putB n m)[k] = UInt8.ofNat (n / 2 ^ (8 * k)) := by simp [putB]
theorem numB_lt : ∀ l : List UInt8, numB l < 256 ^ l.length
  | [] => by simp [numB]
  | x :: l => by
    have := numB_lt l
    have hx := x.toNat_lt
    simp only [numB, List.length_cons, Nat.pow_succ]
    omega
theorem numB_snoc (l : List UInt8) (x : UInt8) : numB (l ++ [x]) = numB l + x.toNat * 256 ^ l.length := by
  induction l with
  | nil => simp [numB]
  | cons y l ih =>
    simp only [List.cons_append, numB, ih, List.length_cons, Nat.pow_succ]
    rw [Nat.mul_add]
    have : 256 * (x.toNat * 256 ^ l.length) = x.toNat * (256 ^ l.length * 256) := by
      rw [Nat.mul_left_comm, Nat.mul_comm 256]
    omega
theorem pow256 (k : Nat) : 256 ^ k = 2 ^ (8 * k) := by
  rw [show (256 : Nat) = 2 ^ 8 by rfl, ← Nat.pow_mul]

/-- One byte more, by the program's own means. -/
theorem numB_step (l : List UInt8) (x : UInt8) (h : l.length < 8) :
    IntKind.u64.wrap ((BitVec.ofInt IntKind.u64.bits (numB l : Int) ||| BitVec.ofInt IntKind.u64.bits (IntKind.u64.wrap (IntKind.u64.wrap (x.toNat : Int) * 2 ^ (min (8 * l.length) IntKind.u64.bits)))).toNat : Int) = (numB (l ++ [x]) : Int) := by
  have hm : min (8 * l.length) IntKind.u64.bits = 8 * l.length := by simp [IntKind.bits]; omega
  have hx := x.toNat_lt
  have hl := numB_lt l
  rw [pow256] at hl
  have hp : 2 ^ (8 * l.length) ≤ 2 ^ 56 := Nat.pow_le_pow_right (by omega) (by omega)
  have hxl : x.toNat * 2 ^ (8 * l.length) < 18446744073709551616 := by
    have : x.toNat * 2 ^ (8 * l.length) ≤ 255 * 2 ^ 56 := Nat.mul_le_mul (by omega) hp
    omega
  have e : ((x.toNat : Int) * 2 ^ (8 * l.length)) = ((x.toNat * 2 ^ (8 * l.length) : Nat) : Int) := by
    rw [Int.natCast_mul, Int.natCast_pow]; rfl
  rw [u64_wrap (n := x.toNat) (by omega), hm, e, u64_wrap hxl, u64_or (by omega) hxl, numB_snoc, pow256]
  congr 1
  rw [Nat.or_comm, Nat.mul_comm x.toNat, ← Nat.two_pow_add_eq_or_of_lt hl, Nat.add_comm]

theorem putB_byte (n k : Nat) (hk : k < 8) : IntKind.u8.wrap ((n : Int).fdiv (2 ^ (min (8 * k) IntKind.u64.bits))) = ((UInt8.ofNat (n / 2 ^ (8 * k))).toNat : Int) := by
  have hm : min (8 * k) IntKind.u64.bits = 8 * k := by simp [IntKind.bits]; omega
  rw [hm, ← u8_wrap]
  congr 1
  rw [show ((2 : Int) ^ (8 * k)) = ((2 ^ (8 * k) : Nat) : Int) by rw [Int.natCast_pow]; rfl, Int.ofNat_fdiv]

theorem numB_putB : ∀ (m n : Nat), numB (putB n m) = n % 256 ^ m := by
  intro m
  induction m with
  | zero => intro n; simp [putB, numB, Nat.mod_one]
  | succ m ih =>
    intro n
    have e : putB n (m + 1) = putB n m ++ [UInt8.ofNat (n / 2 ^ (8 * m))] := by simp [putB, List.range_succ]
    rw [e, numB_snoc, ih, putB_length, UInt8.toNat_ofNat', ← pow256 m, Nat.pow_succ 256 m, Nat.mod_mul (x := n) (a := 256 ^ m) (b := 256), Nat.mul_comm]
theorem putB_numB : ∀ (l : List UInt8), putB (numB l) l.length = l := by
  intro l
  apply List.ext_getElem
  · simp [putB_length]
  · intro i h1 h2
    rw [putB_get]
    have key : ∀ (l : List UInt8) (i : Nat) (h : i < l.length), numB l / 256 ^ i % 256 = l[i].toNat := by
      intro l
      induction l with
      | nil => intro i h; simp at h
      | cons x l ih =>
        intro i h
        have hx := x.toNat_lt
        cases i with
        | zero => simp only [numB, Nat.pow_zero, Nat.div_one, List.getElem_cons_zero]; omega
        | succ i =>
          have := ih i (by simpa using h)
          simp only [numB, List.getElem_cons_succ]
          rw [Nat.pow_succ, Nat.mul_comm (256 ^ i) 256, ← Nat.div_div_eq_div_mul, show (x.toNat + 256 * numB l) / 256 = numB l by omega]
          exact this
    have := key l i h2
    rw [pow256] at this
    apply UInt8.toNat_inj.1
    rw [UInt8.toNat_ofNat', ← this]
end Go.W

/- octet: numbers and texts as bytes; the reader. -/
namespace Go.Proofs.YthlaacnjgdmakaaDoor
open Go.W

def putO (n : Nat) (size : Int) : List UInt8 := if 1 ≤ size ∧ size ≤ 8 then putB n size.toNat else []

theorem put_spec (n : Nat) (size : Int) (_hn : n < 18446744073709551616) : Fun Tryd.prog 52 [.int .u64 (n : Int), .int .i64 size] [] []
    fun v H => ∃ a cap, v = .slice a (putO n size).length cap ∧ H = [sl 1 a (putO n size).length cap (bsV (putO n size))] := by
  refine xenter (p := pg) Tryd.call52 Tryd.func52 fun C => ?_
  repeat (first | refine xst ?_ | refine xar ?_ | refine xop ?_ | refine xlen ?_ | refine xld rfl ?_ | refine xsto rfl ?_ | refine xno ?_ | refine xt ?_ | refine xf ?_)
  refine xbc 9 (fun h1 => ?_) (fun h1 => ?_)
  · repeat (first | refine xst ?_ | refine xar ?_ | refine xop ?_ | refine xlen ?_ | refine xld rfl ?_ | refine xsto rfl ?_ | refine xno ?_ | refine xt ?_ | refine xf ?_)
    refine G.sln 1 ?_
    refine xretp [0] ?_
    rw [show putO n size = [] by unfold putO; rw [if_neg (by omega)]]
    exact ⟨none, 0, rfl, rfl⟩
  · repeat (first | refine xst ?_ | refine xar ?_ | refine xop ?_ | refine xlen ?_ | refine xld rfl ?_ | refine xsto rfl ?_ | refine xno ?_ | refine xt ?_ | refine xf ?_)
    refine xd (fun h2 => ?_) (fun h2 => ?_)
    · repeat (first | refine xst ?_ | refine xar ?_ | refine xop ?_ | refine xlen ?_ | refine xld rfl ?_ | refine xsto rfl ?_ | refine xno ?_ | refine xt ?_ | refine xf ?_)
      refine G.sln 1 ?_
      refine xretp [0] ?_
      rw [show putO n size = [] by unfold putO; rw [if_neg (by omega)]]
      exact ⟨none, 0, rfl, rfl⟩
    · obtain ⟨m, rfl⟩ : ∃ m : Nat, size = m := ⟨size.toNat, by omega⟩
      repeat (first | refine xst ?_ | refine xar ?_ | refine xop ?_ | refine xlen ?_ | refine xld rfl ?_ | refine xsto rfl ?_ | refine xno ?_ | refine xt ?_ | refine xf ?_)
      refine xmake m m rfl rfl rfl (Nat.le_refl _) (by omega) (by omega) fun b => ?_
      repeat (first | refine xst ?_ | refine xar ?_ | refine xop ?_ | refine xlen ?_ | refine xld rfl ?_ | refine xsto rfl ?_ | refine xno ?_ | refine xt ?_ | refine xf ?_)
      refine G.loop (σ := Nat) (fun k => [(0, .int .u64 (n : Int)), (5, .slice (some ⟨b, 0, none⟩) m m), (16, .int .i64 (m : Int)), (17, .int .i64 (k : Int))])
        (fun k => [sl 1 (some ⟨b, 0, none⟩) m m ((bsV (putB n m)).take k ++ zeros (m - k) [.int .u8 0])]) (fun k => k ≤ m) (fun k => m - k) 0 (Nat.zero_le _) ⟨rfl, rfl, rfl, rfl, trivial⟩ (Ent.refl _) ?_
      intro k hk
      repeat (first | refine xst ?_ | refine xar ?_ | refine xop ?_ | refine xlen ?_ | refine xld rfl ?_ | refine xsto rfl ?_ | refine xno ?_ | refine xt ?_ | refine xf ?_)
      refine xd (fun h3 => ?_) (fun h3 => ?_)
      · have hk' : k < m := by omega
        repeat (first | refine xst ?_ | refine xar ?_ | refine xop ?_ | refine xlen ?_ | refine xld rfl ?_ | refine xsto rfl ?_ | refine xno ?_ | refine xt ?_ | refine xf ?_)
        refine xix ?_
        refine xE 26 (bV (UInt8.ofNat (n / 2 ^ (8 * k)))) rfl (congrArg (Value.int .u8) (putB_byte n k (by omega))) ?_
        have hb8 : (bsV (putB n m)).length = m := by simp [bsV, putB_length]
        refine xstl rfl k ((bsV (putB n m)).take (k + 1) ++ zeros (m - (k + 1)) [.int .u8 0]) (fill_row hb8 hk' ?_) ?_ ?_
        · rw [bsV_get (by rw [putB_length]; exact hk'), putB_get]
        · rw [fill_len hb8 hk]; exact hk'
        repeat (first | refine xst ?_ | refine xar ?_ | refine xop ?_ | refine xlen ?_ | refine xld rfl ?_ | refine xsto rfl ?_ | refine xno ?_ | refine xt ?_ | refine xf ?_)
        exact G.fin (k + 1) ⟨by omega, by omega⟩ ⟨rfl, rfl, rfl, rfl, trivial⟩ ent_pick
      · obtain rfl : k = m := by omega
        repeat (first | refine xst ?_ | refine xar ?_ | refine xop ?_ | refine xlen ?_ | refine xld rfl ?_ | refine xsto rfl ?_ | refine xno ?_ | refine xt ?_ | refine xf ?_)
        refine xretp [0] ?_
        have e1 : putO n k = putB n k := by unfold putO; rw [if_pos (by omega)]; simp
        have e2 : (bsV (putB n k)).take k ++ zeros (k - k) [.int .u8 0] = bsV (putB n k) := by
          rw [List.take_of_length_le (by simp [bsV, putB_length]), Nat.sub_self]; simp [zeros]
        rw [e1, e2, putB_length]
        exact ⟨some ⟨b, 0, none⟩, k, rfl, rfl⟩

theorem number_spec (a : Option Addr) (n cap : Nat) (bs : List UInt8) (hn : n = bs.length) (h8 : bs.length ≤ 8) : Fun Tryd.prog 82 [.slice a n cap] [slR 1 a n cap (bsV bs)] [] fun v H => v = .int .u64 (numB bs : Int) ∧ H = [] := by
  subst hn
  refine xenter (p := pg) Tryd.call82 Tryd.func82 fun C => ?_
  have hr := RP.slR (RP.of C (X := slR 1 a bs.length cap (bsV bs)) (by simp))
  repeat (first | refine xst ?_ | refine xar ?_ | refine xop ?_ | refine xlen ?_ | refine xld rfl ?_ | refine xsto rfl ?_ | refine xno ?_ | refine xt ?_ | refine xf ?_)
  refine G.loop (σ := Nat) (fun k => [(3, .int .u64 (numB (bs.take k) : Int)), (6, .slice a bs.length cap), (7, .int .i64 (bs.length : Int)), (8, .int .i64 (k : Int))])
    (fun _ => []) (fun k => k ≤ bs.length) (fun k => bs.length - k) 0 (Nat.zero_le _) ⟨rfl, rfl, rfl, rfl, trivial⟩ (Ent.refl _) ?_
  intro k hk
  repeat (first | refine xst ?_ | refine xar ?_ | refine xop ?_ | refine xlen ?_ | refine xld rfl ?_ | refine xsto rfl ?_ | refine xno ?_ | refine xt ?_ | refine xf ?_)
  refine xd (fun h3 => ?_) (fun h3 => ?_)
  · have hk' : k < bs.length := by omega
    obtain ⟨b, off, rfl, hsb⟩ := hr.some (by omega)
    repeat (first | refine xst ?_ | refine xar ?_ | refine xop ?_ | refine xlen ?_ | refine xld rfl ?_ | refine xsto rfl ?_ | refine xno ?_ | refine xt ?_ | refine xf ?_)
    refine xix ?_
    refine xldl rfl k (bsV_get hk') ?_
    repeat (first | refine xst ?_ | refine xar ?_ | refine xop ?_ | refine xlen ?_ | refine xld rfl ?_ | refine xsto rfl ?_ | refine xno ?_ | refine xt ?_ | refine xf ?_)
    have hlen : (bs.take k).length = k := by simp; omega
    have hst := numB_step (bs.take k) bs[k] (by omega)
    rw [hlen] at hst
    refine xE 3 (.int .u64 (numB (bs.take (k + 1)) : Int)) rfl (by rw [List.take_succ_eq_append_getElem hk']; exact congrArg (Value.int .u64) hst) ?_
    exact G.fin (k + 1) ⟨by omega, by omega⟩ ⟨rfl, rfl, rfl, rfl, trivial⟩ ent_pick
  · obtain rfl : k = bs.length := by omega
    repeat (first | refine xst ?_ | refine xar ?_ | refine xop ?_ | refine xlen ?_ | refine xld rfl ?_ | refine xsto rfl ?_ | refine xno ?_ | refine xt ?_ | refine xf ?_)
    refine xretp [] ?_
    rw [List.take_length]
    exact ⟨rfl, rfl⟩

theorem fail_spec (q : Nat) (s : Value) (at_ code c : Int) : Fun Tryd.prog 80 [.pointer (some ⟨q, 0, none⟩), .int .i64 c] [] [pts q [s, .int .i64 at_, .int .i64 code]]
    fun v H => v = .tuple #[] ∧ H = [pts q [s, .int .i64 at_, .int .i64 (if code = 0 then c else code)]] := by
  refine xenter (p := pg) Tryd.call80 Tryd.func80 fun C => ?_
  repeat (first | refine xst ?_ | refine xar ?_ | refine xop ?_ | refine xlen ?_ | refine xld rfl ?_ | refine xsto rfl ?_ | refine xno ?_ | refine xt ?_ | refine xf ?_)
  refine xd (fun h => ?_) (fun h => ?_)
  · repeat (first | refine xst ?_ | refine xar ?_ | refine xop ?_ | refine xlen ?_ | refine xld rfl ?_ | refine xsto rfl ?_ | refine xno ?_ | refine xt ?_ | refine xf ?_)
    refine xdonep [0] ?_
    simp [h, resV]
  · repeat (first | refine xst ?_ | refine xar ?_ | refine xop ?_ | refine xlen ?_ | refine xld rfl ?_ | refine xsto rfl ?_ | refine xno ?_ | refine xt ?_ | refine xf ?_)
    refine xdonep [0] ?_
    simp [h, resV]

theorem left_spec (q : Nat) (a : Option Addr) (n cap at_ : Nat) (code : Value) (hat : at_ ≤ n) (hn : n ≤ 140737488355328) : Fun Tryd.prog 83 [.pointer (some ⟨q, 0, none⟩)] [rdb q [.slice a n cap, .int .i64 (at_ : Int), code]] []
    fun v H => v = .int .i64 ((n - at_ : Nat) : Int) ∧ H = [] := by
  refine xenter (p := pg) Tryd.call83 Tryd.func83 fun C => ?_
  haveI := RB.of C (b := q) (l := [.slice a n cap, .int .i64 (at_ : Int), code]) (by simp)
  repeat (first | refine xst ?_ | refine xar ?_ | refine xop ?_ | refine xlen ?_ | refine xld rfl ?_ | refine xsto rfl ?_ | refine xno ?_ | refine xt ?_ | refine xf ?_)
  refine xdraw ?_
  refine xdop 0 ?_
  refine xdop 1 ?_
  refine xdop 2 ?_
  refine xdld 3 rfl rfl ?_
  refine xdlen 4 ?_
  refine xdop 5 ?_
  refine xdop 6 ?_
  refine xdop 7 ?_
  refine xdld 8 rfl rfl ?_
  (first | refine xdar 9 ?_ | refine xdop 9 ?_)
  refine xdop 10 ?_
  refine xdend ?_
  repeat (first | refine xst ?_ | refine xar ?_ | refine xop ?_ | refine xlen ?_ | refine xld rfl ?_ | refine xsto rfl ?_ | refine xno ?_ | refine xt ?_ | refine xf ?_)
  refine xretp [] ?_
  simp [resV]; omega

/-- What the next n bytes of a reader are, where it stands then, and its failure. -/
def rdTake (bs : List UInt8) (at_ : Nat) (code : Int) (n : Nat) : List UInt8 × Nat × Int :=
  if code = 0 ∧ at_ + n ≤ bs.length then ((bs.drop at_).take n, at_ + n, 0) else ([], at_, if code = 0 then 2 else code)

theorem take_spec (q : Nat) (a : Option Addr) (len cap at_ : Nat) (code : Int) (n : Nat) (hat : at_ ≤ len) (hlen : len ≤ 140737488355328) (hcap : len ≤ cap) :
    Fun Tryd.prog 81 [.pointer (some ⟨q, 0, none⟩), .int .i64 (n : Int)] [] [pts q [.slice a len cap, .int .i64 (at_ : Int), .int .i64 code]]
    fun v H => (code = 0 ∧ at_ + n ≤ len ∧ v = .tuple #[.slice (subA a at_ 1 cap) (at_ + n - at_) (cap - at_), .bool true] ∧ H = [pts q [.slice a len cap, .int .i64 ((at_ + n : Nat) : Int), .int .i64 code]]) ∨
      (¬ (code = 0 ∧ at_ + n ≤ len) ∧ v = .tuple #[.slice none 0 0, .bool false] ∧ H = [pts q [.slice a len cap, .int .i64 (at_ : Int), .int .i64 (if code = 0 then 2 else code)]]) := by
  refine xenter (p := pg) Tryd.call81 Tryd.func81 fun C => ?_
  repeat (first | refine xst ?_ | refine xar ?_ | refine xop ?_ | refine xlen ?_ | refine xld rfl ?_ | refine xsto rfl ?_ | refine xno ?_ | refine xt ?_ | refine xf ?_)
  refine xd (fun h => ?_) (fun h => ?_)
  · repeat (first | refine xst ?_ | refine xar ?_ | refine xop ?_ | refine xlen ?_ | refine xld rfl ?_ | refine xsto rfl ?_ | refine xno ?_ | refine xt ?_ | refine xf ?_)
    refine xretp [0] ?_
    refine .inr ⟨fun h' => h h'.1, rfl, ?_⟩
    rw [if_neg h]
  · have h : code = 0 := by omega
    subst h
    repeat (first | refine xst ?_ | refine xar ?_ | refine xop ?_ | refine xlen ?_ | refine xld rfl ?_ | refine xsto rfl ?_ | refine xno ?_ | refine xt ?_ | refine xf ?_)
    refine xcall (left_spec q a len cap at_ (.int .i64 0) hat hlen) ?_
    rintro v H ⟨rfl, rfl⟩
    refine G.app ?_
    repeat (first | refine xst ?_ | refine xar ?_ | refine xop ?_ | refine xlen ?_ | refine xld rfl ?_ | refine xsto rfl ?_ | refine xno ?_ | refine xt ?_ | refine xf ?_)
    refine xd (fun h2 => ?_) (fun h2 => ?_)
    · repeat (first | refine xst ?_ | refine xar ?_ | refine xop ?_ | refine xlen ?_ | refine xld rfl ?_ | refine xsto rfl ?_ | refine xno ?_ | refine xt ?_ | refine xf ?_)
      refine xcall (fail_spec q (.slice a len cap) at_ 0 2) ?_
      rintro v H ⟨rfl, rfl⟩
      refine G.app ?_
      repeat (first | refine xst ?_ | refine xar ?_ | refine xop ?_ | refine xlen ?_ | refine xld rfl ?_ | refine xsto rfl ?_ | refine xno ?_ | refine xt ?_ | refine xf ?_)
      refine xretp [0] ?_
      exact .inr ⟨fun h' => by omega, rfl, rfl⟩
    · have hle : at_ + n ≤ len := by omega
      repeat (first | refine xst ?_ | refine xar ?_ | refine xop ?_ | refine xlen ?_ | refine xld rfl ?_ | refine xsto rfl ?_ | refine xno ?_ | refine xt ?_ | refine xf ?_)
      refine xdraw ?_
      refine xdop 0 ?_
      refine xdop 1 ?_
      refine xdop 2 ?_
      refine xdld 3 rfl rfl ?_
      refine xdop 4 ?_
      refine xdop 5 ?_
      refine xdop 6 ?_
      refine xdld 7 rfl rfl ?_
      refine xdop 8 ?_
      refine xdop 9 ?_
      refine xdop 10 ?_
      refine xdld 11 rfl rfl ?_
      refine xdop 12 ?_
      (first | refine xdar 13 ?_ | refine xdop 13 ?_)
      refine xdslice 14 at_ (at_ + n) rfl rfl rfl rfl (by omega) (by omega) ?_
      refine xdop 15 ?_
      refine xdend ?_
      repeat (first | refine xst ?_ | refine xar ?_ | refine xop ?_ | refine xlen ?_ | refine xld rfl ?_ | refine xsto rfl ?_ | refine xno ?_ | refine xt ?_ | refine xf ?_)
      refine xretp [0] ?_
      exact .inl ⟨rfl, hle, rfl, rfl⟩
end Go.Proofs.YthlaacnjgdmakaaDoor

/- octet: the reader. -/
namespace Go.Proofs.YthlaacnjgdmakaaDoor
open Go.W

/-- A reader: its bytes, where it stands, its failure. -/
def rdV (a : Option Addr) (len cap : Nat) (r : Nat × Int) : List Value := [.slice a len cap, .int .i64 (r.1 : Int), .int .i64 r.2]
def rdOk (bs : List UInt8) (at_ : Nat) (code : Int) (n : Nat) : Bool := decide (code = 0 ∧ at_ + n ≤ bs.length)
def rdX (bs : List UInt8) (at_ : Nat) (code : Int) (n : Nat) : List UInt8 := if code = 0 ∧ at_ + n ≤ bs.length then (bs.drop at_).take n else []
def rdR (bs : List UInt8) (at_ : Nat) (code : Int) (n : Nat) : Nat × Int := if code = 0 ∧ at_ + n ≤ bs.length then (at_ + n, 0) else (at_, if code = 0 then 2 else code)
theorem rdR_le {bs : List UInt8} {at_ : Nat} {code : Int} {n : Nat} (h : at_ ≤ bs.length) : (rdR bs at_ code n).1 ≤ bs.length := by
  unfold rdR; split <;> simp <;> omega
theorem rdX_len {bs : List UInt8} {at_ : Nat} {code : Int} {n : Nat} : (rdX bs at_ code n).length ≤ n := by
  unfold rdX; split <;> simp <;> omega

theorem num_spec (q : Nat) (a : Option Addr) (cap at_ : Nat) (bs : List UInt8) (code : Int) (n : Nat) (h1 : 1 ≤ n) (h8 : n ≤ 8) (hat : at_ ≤ bs.length) (hlen : bs.length ≤ 140737488355328) (hcap : bs.length ≤ cap) :
    Fun Tryd.prog 55 [.pointer (some ⟨q, 0, none⟩), .int .i64 (n : Int)] [slR 1 a bs.length cap (bsV bs)] [pts q [.slice a bs.length cap, .int .i64 (at_ : Int), .int .i64 code]]
    fun v H => v = .int .u64 (numB (rdX bs at_ code n) : Int) ∧ H = [pts q (rdV a bs.length cap (rdR bs at_ code n))] := by
  refine xenter (p := pg) Tryd.call55 Tryd.func55 fun C => ?_
  have hr := RP.slR (RP.of C (X := slR 1 a bs.length cap (bsV bs)) (by simp))
  repeat (first | refine xst ?_ | refine xar ?_ | refine xop ?_ | refine xlen ?_ | refine xld rfl ?_ | refine xsto rfl ?_ | refine xno ?_ | refine xt ?_ | refine xf ?_)
  refine xbc 9 (fun h => ?_) (fun h => ?_)
  · omega
  repeat (first | refine xst ?_ | refine xar ?_ | refine xop ?_ | refine xlen ?_ | refine xld rfl ?_ | refine xsto rfl ?_ | refine xno ?_ | refine xt ?_ | refine xf ?_)
  refine xd (fun h => ?_) (fun h => ?_)
  · omega
  repeat (first | refine xst ?_ | refine xar ?_ | refine xop ?_ | refine xlen ?_ | refine xld rfl ?_ | refine xsto rfl ?_ | refine xno ?_ | refine xt ?_ | refine xf ?_)
  refine xcall (take_spec q a bs.length cap at_ code n hat hlen hcap) ?_
  rintro v H (⟨rfl, hle, rfl, rfl⟩ | ⟨hno, rfl, rfl⟩)
  · refine G.app ?_
    repeat (first | refine xst ?_ | refine xar ?_ | refine xop ?_ | refine xlen ?_ | refine xld rfl ?_ | refine xsto rfl ?_ | refine xno ?_ | refine xt ?_ | refine xf ?_)
    haveI := hr.subB (k := at_) (m := at_ + n) (by omega) hle
    refine xcall (number_spec (subA a at_ 1 cap) (at_ + n - at_) (cap - at_) ((bs.drop at_).take (at_ + n - at_)) (by simp; omega) (by simp; omega)) ?_
    rintro v H ⟨rfl, rfl⟩
    refine G.app ?_
    repeat (first | refine xst ?_ | refine xar ?_ | refine xop ?_ | refine xlen ?_ | refine xld rfl ?_ | refine xsto rfl ?_ | refine xno ?_ | refine xt ?_ | refine xf ?_)
    refine xretp [0] ?_
    rw [rdX, rdR, if_pos ⟨rfl, hle⟩, if_pos ⟨rfl, hle⟩, Nat.add_sub_cancel_left]
    exact ⟨rfl, rfl⟩
  · refine G.app ?_
    repeat (first | refine xst ?_ | refine xar ?_ | refine xop ?_ | refine xlen ?_ | refine xld rfl ?_ | refine xsto rfl ?_ | refine xno ?_ | refine xt ?_ | refine xf ?_)
    refine xcall (number_spec none 0 0 [] rfl (by simp)) ?_
    rintro v H ⟨rfl, rfl⟩
    refine G.app ?_
    repeat (first | refine xst ?_ | refine xar ?_ | refine xop ?_ | refine xlen ?_ | refine xld rfl ?_ | refine xsto rfl ?_ | refine xno ?_ | refine xt ?_ | refine xf ?_)
    refine xretp [0] ?_
    rw [rdX, rdR, if_neg hno, if_neg hno]
    exact ⟨rfl, rfl⟩

theorem bytes_spec (q : Nat) (a : Option Addr) (cap at_ : Nat) (bs : List UInt8) (code : Int) (n : Nat) (hn : n ≤ 140737488355328) (hat : at_ ≤ bs.length) (hlen : bs.length ≤ 140737488355328) (hcap : bs.length ≤ cap) :
    Fun Tryd.prog 56 [.pointer (some ⟨q, 0, none⟩), .int .i64 (n : Int)] [slR 1 a bs.length cap (bsV bs)] [pts q [.slice a bs.length cap, .int .i64 (at_ : Int), .int .i64 code]]
    fun v H => ∃ a' cap', v = .slice a' (rdX bs at_ code n).length cap' ∧ H = [sl 1 a' (rdX bs at_ code n).length cap' (bsV (rdX bs at_ code n)), pts q (rdV a bs.length cap (rdR bs at_ code n))] := by
  refine xenter (p := pg) Tryd.call56 Tryd.func56 fun C => ?_
  have hr := RP.slR (RP.of C (X := slR 1 a bs.length cap (bsV bs)) (by simp))
  repeat (first | refine xst ?_ | refine xar ?_ | refine xop ?_ | refine xlen ?_ | refine xld rfl ?_ | refine xsto rfl ?_ | refine xno ?_ | refine xt ?_ | refine xf ?_)
  refine xcall (take_spec q a bs.length cap at_ code n hat hlen hcap) ?_
  rintro v H (⟨rfl, hle, rfl, rfl⟩ | ⟨hno, rfl, rfl⟩)
  · refine G.app ?_
    repeat (first | refine xst ?_ | refine xar ?_ | refine xop ?_ | refine xlen ?_ | refine xld rfl ?_ | refine xsto rfl ?_ | refine xno ?_ | refine xt ?_ | refine xf ?_)
    haveI := hr.subB (k := at_) (m := at_ + n) (by omega) hle
    refine G.sln 1 ?_
    refine xapp [] rfl (SrcOk.rs this (bsV_one _)) (by omega) fun a' cap' => ?_
    repeat (first | refine xst ?_ | refine xar ?_ | refine xop ?_ | refine xlen ?_ | refine xld rfl ?_ | refine xsto rfl ?_ | refine xno ?_ | refine xt ?_ | refine xf ?_)
    refine xretp [0,0] ?_
    rw [rdX, rdR, if_pos ⟨rfl, hle⟩, if_pos ⟨rfl, hle⟩]
    have e : ((bs.drop at_).take n).length = n := by simp; omega
    rw [e]
    refine ⟨a', cap', ?_, ?_⟩
    · simp [resV]
    · simp [rdV]
  · refine G.app ?_
    repeat (first | refine xst ?_ | refine xar ?_ | refine xop ?_ | refine xlen ?_ | refine xld rfl ?_ | refine xsto rfl ?_ | refine xno ?_ | refine xt ?_ | refine xf ?_)
    refine G.sln 1 ?_
    refine xretp [0, 0] ?_
    rw [rdX, rdR, if_neg hno, if_neg hno]
    exact ⟨none, 0, rfl, rfl⟩

theorem must_spec (q : Nat) (s : Value) (at_ code c : Int) (ok : Bool) (hc : c ≠ 0) : Fun Tryd.prog 54 [.pointer (some ⟨q, 0, none⟩), .bool ok, .int .i64 c] [] [pts q [s, .int .i64 at_, .int .i64 code]]
    fun _ H => H = [pts q [s, .int .i64 at_, .int .i64 (if code = 0 ∧ ok = false then c else code)]] := by
  refine xenter (p := pg) Tryd.call54 Tryd.func54 fun C => ?_
  repeat (first | refine xst ?_ | refine xar ?_ | refine xop ?_ | refine xlen ?_ | refine xld rfl ?_ | refine xsto rfl ?_ | refine xno ?_ | refine xt ?_ | refine xf ?_)
  cases ok with
  | true =>
    repeat (first | refine xst ?_ | refine xar ?_ | refine xop ?_ | refine xlen ?_ | refine xld rfl ?_ | refine xsto rfl ?_ | refine xno ?_ | refine xt ?_ | refine xf ?_)
    refine xretp [0] ?_
    simp
  | false =>
    repeat (first | refine xst ?_ | refine xar ?_ | refine xop ?_ | refine xlen ?_ | refine xld rfl ?_ | refine xsto rfl ?_ | refine xno ?_ | refine xt ?_ | refine xf ?_)
    refine xd (fun h => ?_) (fun h => ?_)
    · omega
    repeat (first | refine xst ?_ | refine xar ?_ | refine xop ?_ | refine xlen ?_ | refine xld rfl ?_ | refine xsto rfl ?_ | refine xno ?_ | refine xt ?_ | refine xf ?_)
    refine xcall (fail_spec q s at_ code c) ?_
    rintro v H ⟨rfl, rfl⟩
    refine G.app ?_
    repeat (first | refine xst ?_ | refine xar ?_ | refine xop ?_ | refine xlen ?_ | refine xld rfl ?_ | refine xsto rfl ?_ | refine xno ?_ | refine xt ?_ | refine xf ?_)
    refine xdonep [0] ?_
    simp

def endF (len : Nat) (r : Nat × Int) : List (Int × Int) := if r.2 = 0 then (if r.1 < len then [(7, r.1)] else []) else [(r.2, r.1)]
theorem end_spec (q : Nat) (a : Option Addr) (len cap at_ : Nat) (code : Int) (hat : at_ ≤ len) (hlen : len ≤ 140737488355328) : Fun Tryd.prog 57 [.pointer (some ⟨q, 0, none⟩)] [rdb q [.slice a len cap, .int .i64 (at_ : Int), .int .i64 code]] []
    fun v H => H = [chain (endF len (at_, code)) v] := by
  refine xenter (p := pg) Tryd.call57 Tryd.func57 fun C => ?_
  haveI := RB.of C (b := q) (l := [.slice a len cap, .int .i64 (at_ : Int), .int .i64 code]) (by simp)
  repeat (first | refine xst ?_ | refine xar ?_ | refine xop ?_ | refine xlen ?_ | refine xld rfl ?_ | refine xsto rfl ?_ | refine xno ?_ | refine xt ?_ | refine xf ?_)
  refine xd (fun h => ?_) (fun h => ?_)
  · repeat (first | refine xst ?_ | refine xar ?_ | refine xop ?_ | refine xlen ?_ | refine xld rfl ?_ | refine xsto rfl ?_ | refine xno ?_ | refine xt ?_ | refine xf ?_)
    refine xdraw ?_
    refine xdop 0 ?_
    refine xdop 1 ?_
    refine xdop 2 ?_
    refine xdld 3 rfl rfl ?_
    refine xdop 4 ?_
    refine xdop 5 ?_
    refine xdop 6 ?_
    refine xdld 7 rfl rfl ?_
    refine xdact 8 ?_
    refine xcall (new_spec code at_) ?_
    rintro v H rfl
    refine G.app ?_
    refine xst ?_
    refine xdop 9 ?_
    refine xdend ?_
    repeat (first | refine xst ?_ | refine xar ?_ | refine xop ?_ | refine xlen ?_ | refine xld rfl ?_ | refine xsto rfl ?_ | refine xno ?_ | refine xt ?_ | refine xf ?_)
    refine xretp [0] ?_
    have e : endF len (at_, code) = newF code at_ := by unfold endF newF; simp [h]
    rw [e]; rfl
  · have h : code = 0 := by omega
    subst h
    repeat (first | refine xst ?_ | refine xar ?_ | refine xop ?_ | refine xlen ?_ | refine xld rfl ?_ | refine xsto rfl ?_ | refine xno ?_ | refine xt ?_ | refine xf ?_)
    refine xcall (left_spec q a len cap at_ (.int .i64 0) hat hlen) ?_
    rintro v H ⟨rfl, rfl⟩
    refine G.app ?_
    repeat (first | refine xst ?_ | refine xar ?_ | refine xop ?_ | refine xlen ?_ | refine xld rfl ?_ | refine xsto rfl ?_ | refine xno ?_ | refine xt ?_ | refine xf ?_)
    refine xd (fun h2 => ?_) (fun h2 => ?_)
    · repeat (first | refine xst ?_ | refine xar ?_ | refine xop ?_ | refine xlen ?_ | refine xld rfl ?_ | refine xsto rfl ?_ | refine xno ?_ | refine xt ?_ | refine xf ?_)
      refine xcall (new_spec 7 at_) ?_
      rintro v H rfl
      refine G.app ?_
      repeat (first | refine xst ?_ | refine xar ?_ | refine xop ?_ | refine xlen ?_ | refine xld rfl ?_ | refine xsto rfl ?_ | refine xno ?_ | refine xt ?_ | refine xf ?_)
      refine xretp [0] ?_
      have e : endF len (at_, 0) = newF 7 at_ := by unfold endF newF; simp; omega
      rw [e]; rfl
    · repeat (first | refine xst ?_ | refine xar ?_ | refine xop ?_ | refine xlen ?_ | refine xld rfl ?_ | refine xsto rfl ?_ | refine xno ?_ | refine xt ?_ | refine xf ?_)
      refine G.fold (chain [] .nilIface) [] (fun w F _ => chain_nil w F) ?_
      refine xretp [0] ?_
      have e : endF len (at_, 0) = [] := by unfold endF; simp; omega
      rw [e]; rfl

theorem read_spec (a : Option Addr) (n cap : Nat) (bs : List UInt8) (hn : n = bs.length) (hlen : n ≤ 140737488355328) : Fun Tryd.prog 53 [.slice a n cap] [slR 1 a n cap (bsV bs)] []
    fun v H => ∃ q a' cap', v = .pointer (some ⟨q, 0, none⟩) ∧ n ≤ cap' ∧ H = [pts q [.slice a' n cap', .int .i64 0, .int .i64 0], sl 1 a' n cap' (bsV bs)] := by
  subst hn
  refine xenter (p := pg) Tryd.call53 Tryd.func53 fun C => ?_
  haveI := RP.slR (RP.of C (X := slR 1 a bs.length cap (bsV bs)) (by simp))
  repeat (first | refine xst ?_ | refine xar ?_ | refine xop ?_ | refine xlen ?_ | refine xld rfl ?_ | refine xsto rfl ?_ | refine xno ?_ | refine xt ?_ | refine xf ?_)
  refine G.sln 1 ?_
  refine xapp [] rfl (SrcOk.rs this (bsV_one _)) (by omega) fun a' cap' => ?_
  refine xslf 0 rfl fun _ hc _ => ?_
  repeat (first | refine xst ?_ | refine xar ?_ | refine xop ?_ | refine xlen ?_ | refine xld rfl ?_ | refine xsto rfl ?_ | refine xno ?_ | refine xt ?_ | refine xf ?_)
  refine xnew fun q => ?_
  repeat (first | refine xst ?_ | refine xar ?_ | refine xop ?_ | refine xlen ?_ | refine xld rfl ?_ | refine xsto rfl ?_ | refine xno ?_ | refine xt ?_ | refine xf ?_)
  refine xretp [0, 0] ?_
  refine ⟨q, a', cap', rfl, by omega, ?_⟩
  simp
end Go.Proofs.YthlaacnjgdmakaaDoor

/- code: instructions. -/
namespace Go.Proofs.YthlaacnjgdmakaaDoor
open Go.W

structure Ins where
  op : UInt8
  a : UInt8
  b : UInt8
  c : UInt8
deriving DecidableEq
def insV (i : Ins) : List Value := [bV i.op, bV i.a, bV i.b, bV i.c]
def insA (i : Ins) : Value := .agg #[bV i.op, bV i.a, bV i.b, bV i.c]
def inssV (l : List Ins) : List Value := l.flatMap insV
theorem insV_len (i : Ins) : (insV i).length = 4 := rfl
theorem inssV_len (l : List Ins) : (inssV l).length = l.length * 4 := flat_length insV_len l

def numI (op b c : Int) : Int := if op = 1 ∧ b + 256 * c ≥ 32768 then b + 256 * c - 65536 else b + 256 * c
def Ins.num (i : Ins) : Int := numI i.op.toNat i.b.toNat i.c.toNat
def wfI (op a b c : Int) : Bool :=
  if op = 0 then decide (a = 0 ∧ b = 0 ∧ c = 0) else if op = 15 then decide (a = 0) else if op = 17 then decide (a < 16 ∧ b = 0 ∧ c = 0)
  else if op = 2 then decide (c = 0 ∧ b < 8 ∧ a < 8) else if 3 ≤ op ∧ op ≤ 12 then decide (c < 8 ∧ b < 8 ∧ a < 8)
  else if op = 13 ∨ op = 14 then decide (b < 8 ∧ a < 8) else if op = 1 ∨ op = 16 then decide (a < 8) else false
def Ins.wf (i : Ins) : Bool := wfI i.op.toNat i.a.toNat i.b.toNat i.c.toNat
def Ins.leads (i : Ins) : Bool := decide ((i.op.toNat : Int) = 15 ∨ (i.op.toNat : Int) = 16)

theorem numI_range {op b c : Int} (hb : 0 ≤ b ∧ b ≤ 255) (hc : 0 ≤ c ∧ c ≤ 255) : -32768 ≤ numI op b c ∧ numI op b c ≤ 65535 := by
  unfold numI; split <;> omega

theorem numberI_spec (op x b c : Int) (hb : 0 ≤ b ∧ b ≤ 255) (hc : 0 ≤ c ∧ c ≤ 255) :
    Fun Tryd.prog 50 [.agg #[.int .u8 op, .int .u8 x, .int .u8 b, .int .u8 c]] [] [] fun v H => v = .int .i64 (numI op b c) ∧ H = [] := by
  refine xenter (p := pg) Tryd.call50 Tryd.func50 fun C => ?_
  repeat (first | refine xst ?_ | refine xar ?_ | refine xop ?_ | refine xlen ?_ | refine xld rfl ?_ | refine xsto rfl ?_ | refine xno ?_ | refine xt ?_ | refine xf ?_)
  refine xnew fun b1 => ?_
  repeat (first | refine xst ?_ | refine xar ?_ | refine xop ?_ | refine xlen ?_ | refine xld rfl ?_ | refine xsto rfl ?_ | refine xno ?_ | refine xt ?_ | refine xf ?_)
  refine xbc 15 (fun h1 => ?_) (fun h1 => ?_)
  · repeat (first | refine xst ?_ | refine xar ?_ | refine xop ?_ | refine xlen ?_ | refine xld rfl ?_ | refine xsto rfl ?_ | refine xno ?_ | refine xt ?_ | refine xf ?_)
    refine xd (fun h2 => ?_) (fun h2 => ?_)
    · repeat (first | refine xst ?_ | refine xar ?_ | refine xop ?_ | refine xlen ?_ | refine xld rfl ?_ | refine xsto rfl ?_ | refine xno ?_ | refine xt ?_ | refine xf ?_)
      refine xret [] ⟨?_, rfl⟩
      simp [resV, numI]; omega
    · repeat (first | refine xst ?_ | refine xar ?_ | refine xop ?_ | refine xlen ?_ | refine xld rfl ?_ | refine xsto rfl ?_ | refine xno ?_ | refine xt ?_ | refine xf ?_)
      refine xret [] ⟨?_, rfl⟩
      simp [resV, numI]; omega
  · repeat (first | refine xst ?_ | refine xar ?_ | refine xop ?_ | refine xlen ?_ | refine xld rfl ?_ | refine xsto rfl ?_ | refine xno ?_ | refine xt ?_ | refine xf ?_)
    refine xret [] ⟨?_, rfl⟩
    simp [resV, numI, h1]
theorem numberC_spec (i : Ins) : Fun Tryd.prog 50 [insA i] [] [] fun v H => v = .int .i64 i.num ∧ H = [] := by
  have := i.b.toNat_lt
  have := i.c.toNat_lt
  exact numberI_spec _ _ _ _ (by omega) (by omega)

theorem leads_spec (i : Ins) : Fun Tryd.prog 49 [insA i] [] [] fun v H => v = .bool i.leads ∧ H = [] := by
  refine xenter (p := pg) Tryd.call49 Tryd.func49 fun C => ?_
  repeat (first | refine xst ?_ | refine xar ?_ | refine xop ?_ | refine xlen ?_ | refine xld rfl ?_ | refine xsto rfl ?_ | refine xno ?_ | refine xt ?_ | refine xf ?_)
  refine xnew fun b1 => ?_
  repeat (first | refine xst ?_ | refine xar ?_ | refine xop ?_ | refine xlen ?_ | refine xld rfl ?_ | refine xsto rfl ?_ | refine xno ?_ | refine xt ?_ | refine xf ?_)
  refine xbc 6 (fun h1 => ?_) (fun h1 => ?_)
  · repeat (first | refine xst ?_ | refine xar ?_ | refine xop ?_ | refine xlen ?_ | refine xld rfl ?_ | refine xsto rfl ?_ | refine xno ?_ | refine xt ?_ | refine xf ?_)
    refine xret [] ⟨?_, rfl⟩
    simp only [resV]; congr 1; unfold Ins.leads; rw [Bool.eq_iff_iff]; simp only [decide_eq_true_eq]; simp only [h1, true_or]
  · repeat (first | refine xst ?_ | refine xar ?_ | refine xop ?_ | refine xlen ?_ | refine xld rfl ?_ | refine xsto rfl ?_ | refine xno ?_ | refine xt ?_ | refine xf ?_)
    refine xret [] ⟨?_, rfl⟩
    simp only [resV]; congr 1; unfold Ins.leads; rw [Bool.eq_iff_iff]; simp only [decide_eq_true_eq]; simp only [h1, false_or]

set_option maxHeartbeats 4000000 in
theorem wellFormed_spec (i : Ins) : Fun Tryd.prog 48 [insA i] [] [] fun v H => v = .bool i.wf ∧ H = [] := by
  refine xenter (p := pg) Tryd.call48 Tryd.func48 fun C => ?_
  repeat (first | refine xst ?_ | refine xar ?_ | refine xop ?_ | refine xlen ?_ | refine xld rfl ?_ | refine xsto rfl ?_ | refine xno ?_ | refine xt ?_ | refine xf ?_)
  refine xnew fun b1 => ?_
  repeat' (first | refine xst ?_ | refine xar ?_ | refine xop ?_ | refine xld rfl ?_ | refine xsto rfl ?_ | refine xno ?_ | refine xt ?_ | refine xf ?_ | refine xbc 5 (fun _ => ?_) (fun _ => ?_) | refine xbc 7 (fun _ => ?_) (fun _ => ?_) | refine xbc 9 (fun _ => ?_) (fun _ => ?_) | refine xbc 11 (fun _ => ?_) (fun _ => ?_) | refine xbc 13 (fun _ => ?_) (fun _ => ?_) | refine xbc 24 (fun _ => ?_) (fun _ => ?_) | refine xbc 27 (fun _ => ?_) (fun _ => ?_) | refine xbc 61 (fun _ => ?_) (fun _ => ?_) | refine xbc 64 (fun _ => ?_) (fun _ => ?_) | refine xbc 67 (fun _ => ?_) (fun _ => ?_) | refine xbc 33 (fun _ => ?_) (fun _ => ?_) | refine xbc 38 (fun _ => ?_) (fun _ => ?_) | refine xbc 49 (fun _ => ?_) (fun _ => ?_) | refine xbc 54 (fun _ => ?_) (fun _ => ?_))
  all_goals refine xret [] ⟨?_, rfl⟩
  all_goals (simp only [resV]; congr 1; unfold Ins.wf wfI; rw [Bool.eq_iff_iff]; (repeat' split) <;> simp only [decide_eq_true_eq, Bool.false_eq_true, false_iff] <;> omega)
end Go.Proofs.YthlaacnjgdmakaaDoor

/- code: programs. -/
namespace Go.Proofs.YthlaacnjgdmakaaDoor
open Go.W

def ckGo (n : Nat) : Nat → List Ins → List (Int × Int)
  | _, [] => []
  | at_, i :: r => if i.wf = false then [(3, at_)] else if i.leads = true ∧ i.num ≥ n then [(4, at_)] else ckGo n (at_ + 1) r
def ckLast (l : List Ins) : Bool := match l.getLast? with
  | some i => decide ((i.op.toNat : Int) = 0 ∨ (i.op.toNat : Int) = 15)
  | none => true
def ckF (l : List Ins) : List (Int × Int) :=
  if l.length = 0 ∨ l.length > 128 then [(1, 0)]
  else match ckGo l.length 0 l with
    | [] => if ckLast l then [] else [(2, (l.length : Int) - 1)]
    | e => e

theorem check_spec (a : Option Addr) (n cap : Nat) (l : List Ins) (hn : n = l.length) (hlen : n ≤ 9223372036854775807) : Fun Tryd.prog 28 [.slice a n cap] [slR 4 a n cap (inssV l)] [] fun v H => H = [chain (ckF l) v] := by
  subst hn
  refine xenter (p := pg) Tryd.call28 Tryd.func28 fun C => ?_
  have hr := RP.slR (RP.of C (X := slR 4 a l.length cap (inssV l)) (by simp))
  repeat (first | refine xst ?_ | refine xar ?_ | refine xop ?_ | refine xlen ?_ | refine xld rfl ?_ | refine xsto rfl ?_ | refine xno ?_ | refine xt ?_ | refine xf ?_)
  have hbad : ∀ (h : l.length = 0 ∨ l.length > 128), newF 1 0 = ckF l := by
    intro h; unfold ckF newF; rw [if_pos h]; rfl
  refine xbc 9 (fun h1 => ?_) (fun h1 => ?_)
  · repeat (first | refine xst ?_ | refine xar ?_ | refine xop ?_ | refine xlen ?_ | refine xld rfl ?_ | refine xsto rfl ?_ | refine xno ?_ | refine xt ?_ | refine xf ?_)
    refine xcall (new_spec 1 0) ?_
    rintro v H rfl
    refine G.app ?_
    repeat (first | refine xst ?_ | refine xar ?_ | refine xop ?_ | refine xlen ?_ | refine xld rfl ?_ | refine xsto rfl ?_ | refine xno ?_ | refine xt ?_ | refine xf ?_)
    refine xretp [0] ?_
    rw [hbad (by omega)]; rfl
  · repeat (first | refine xst ?_ | refine xar ?_ | refine xop ?_ | refine xlen ?_ | refine xld rfl ?_ | refine xsto rfl ?_ | refine xno ?_ | refine xt ?_ | refine xf ?_)
    refine xd (fun h2 => ?_) (fun h2 => ?_)
    · repeat (first | refine xst ?_ | refine xar ?_ | refine xop ?_ | refine xlen ?_ | refine xld rfl ?_ | refine xsto rfl ?_ | refine xno ?_ | refine xt ?_ | refine xf ?_)
      refine xcall (new_spec 1 0) ?_
      rintro v H rfl
      refine G.app ?_
      repeat (first | refine xst ?_ | refine xar ?_ | refine xop ?_ | refine xlen ?_ | refine xld rfl ?_ | refine xsto rfl ?_ | refine xno ?_ | refine xt ?_ | refine xf ?_)
      refine xretp [0] ?_
      rw [hbad (by omega)]; rfl
    · repeat (first | refine xst ?_ | refine xar ?_ | refine xop ?_ | refine xlen ?_ | refine xld rfl ?_ | refine xsto rfl ?_ | refine xno ?_ | refine xt ?_ | refine xf ?_)
      obtain ⟨b, off, rfl, hsb⟩ := hr.some (by omega)
      refine G.loop (σ := Nat) (fun k => [(0, .slice (some ⟨b, off, none⟩) l.length cap), (15, .slice (some ⟨b, off, none⟩) l.length cap), (16, .int .i64 (l.length : Int)), (17, .int .i64 (k : Int))])
        (fun _ => []) (fun k => k ≤ l.length ∧ ckGo l.length 0 l = ckGo l.length k (l.drop k)) (fun k => l.length - k) 0 ⟨Nat.zero_le _, rfl⟩ ⟨rfl, rfl, rfl, rfl, trivial⟩ (Ent.refl _) ?_
      rintro k ⟨hk, hgo⟩
      repeat (first | refine xst ?_ | refine xar ?_ | refine xop ?_ | refine xlen ?_ | refine xld rfl ?_ | refine xsto rfl ?_ | refine xno ?_ | refine xt ?_ | refine xf ?_)
      refine xd (fun h3 => ?_) (fun h3 => ?_)
      · have hk' : k < l.length := by omega
        have hel : ((inssV l).drop (k * 4)).take 4 = insV l[k] := flat_elem insV_len l k hk'
        repeat (first | refine xst ?_ | refine xar ?_ | refine xop ?_ | refine xlen ?_ | refine xld rfl ?_ | refine xsto rfl ?_ | refine xno ?_ | refine xt ?_ | refine xf ?_)
        refine xix ?_
        refine xldla rfl (k * 4) (insV l[k]) rfl hel (by rw [inssV_len]; show k * 4 + 4 ≤ _; omega) ?_
        repeat (first | refine xst ?_ | refine xar ?_ | refine xop ?_ | refine xlen ?_ | refine xld rfl ?_ | refine xsto rfl ?_ | refine xno ?_ | refine xt ?_ | refine xf ?_)
        refine xnew fun b2 => ?_
        repeat (first | refine xst ?_ | refine xar ?_ | refine xop ?_ | refine xlen ?_ | refine xld rfl ?_ | refine xsto rfl ?_ | refine xno ?_ | refine xt ?_ | refine xf ?_)
        refine xcall (wellFormed_spec l[k]) ?_
        rintro v H ⟨rfl, rfl⟩
        refine G.app ?_
        have hdrop : l.drop k = l[k] :: l.drop (k + 1) := List.drop_eq_getElem_cons hk'
        rw [hdrop] at hgo
        repeat (first | refine xst ?_ | refine xar ?_ | refine xop ?_ | refine xlen ?_ | refine xld rfl ?_ | refine xsto rfl ?_ | refine xno ?_ | refine xt ?_ | refine xf ?_)
        refine xb (fun hw => ?_) (fun hw => ?_)
        · have hw : l[k].wf = false := by simpa using hw
          repeat (first | refine xst ?_ | refine xar ?_ | refine xop ?_ | refine xlen ?_ | refine xld rfl ?_ | refine xsto rfl ?_ | refine xno ?_ | refine xt ?_ | refine xf ?_)
          refine xcall (new_spec 3 k) ?_
          rintro v H rfl
          refine G.app ?_
          repeat (first | refine xst ?_ | refine xar ?_ | refine xop ?_ | refine xlen ?_ | refine xld rfl ?_ | refine xsto rfl ?_ | refine xno ?_ | refine xt ?_ | refine xf ?_)
          refine xretp [0] ?_
          have e : newF 3 k = ckF l := by
            unfold ckF; rw [if_neg (by omega), hgo]; simp only [ckGo, hw, if_true]; rfl
          rw [e]; rfl
        · have hw : l[k].wf = true := by simpa using hw
          repeat (first | refine xst ?_ | refine xar ?_ | refine xop ?_ | refine xlen ?_ | refine xld rfl ?_ | refine xsto rfl ?_ | refine xno ?_ | refine xt ?_ | refine xf ?_)
          refine xcall (leads_spec l[k]) ?_
          rintro v H ⟨rfl, rfl⟩
          refine G.app ?_
          repeat (first | refine xst ?_ | refine xar ?_ | refine xop ?_ | refine xlen ?_ | refine xld rfl ?_ | refine xsto rfl ?_ | refine xno ?_ | refine xt ?_ | refine xf ?_)
          refine xbb 29 (fun hl => ?_) (fun hl => ?_)
          · repeat (first | refine xst ?_ | refine xar ?_ | refine xop ?_ | refine xlen ?_ | refine xld rfl ?_ | refine xsto rfl ?_ | refine xno ?_ | refine xt ?_ | refine xf ?_)
            refine xcall (numberC_spec l[k]) ?_
            rintro v H ⟨rfl, rfl⟩
            refine G.app ?_
            repeat (first | refine xst ?_ | refine xar ?_ | refine xop ?_ | refine xlen ?_ | refine xld rfl ?_ | refine xsto rfl ?_ | refine xno ?_ | refine xt ?_ | refine xf ?_)
            refine xd (fun hn => ?_) (fun hn => ?_)
            · repeat (first | refine xst ?_ | refine xar ?_ | refine xop ?_ | refine xlen ?_ | refine xld rfl ?_ | refine xsto rfl ?_ | refine xno ?_ | refine xt ?_ | refine xf ?_)
              refine xcall (new_spec 4 k) ?_
              rintro v H rfl
              refine G.app ?_
              repeat (first | refine xst ?_ | refine xar ?_ | refine xop ?_ | refine xlen ?_ | refine xld rfl ?_ | refine xsto rfl ?_ | refine xno ?_ | refine xt ?_ | refine xf ?_)
              refine xretp [0] ?_
              have e : newF 4 k = ckF l := by
                unfold ckF; rw [if_neg (by omega), hgo]
                simp only [ckGo, hw, hl, Bool.true_eq_false, if_false, true_and]
                rw [if_pos (show l[k].num ≥ (l.length : Int) by omega)]; rfl
              rw [e]; rfl
            · repeat (first | refine xst ?_ | refine xar ?_ | refine xop ?_ | refine xlen ?_ | refine xld rfl ?_ | refine xsto rfl ?_ | refine xno ?_ | refine xt ?_ | refine xf ?_)
              refine G.fin (k + 1) ⟨⟨by omega, ?_⟩, by omega⟩ ⟨rfl, rfl, rfl, rfl, trivial⟩ ent_pick
              rw [hgo]; simp only [ckGo, hw, hl, Bool.true_eq_false, if_false, true_and]; rw [if_neg (by omega)]
          · repeat (first | refine xst ?_ | refine xar ?_ | refine xop ?_ | refine xlen ?_ | refine xld rfl ?_ | refine xsto rfl ?_ | refine xno ?_ | refine xt ?_ | refine xf ?_)
            refine G.fin (k + 1) ⟨⟨by omega, ?_⟩, by omega⟩ ⟨rfl, rfl, rfl, rfl, trivial⟩ ent_pick
            rw [hgo]; simp [ckGo, hw, hl]
      · obtain rfl : k = l.length := by omega
        have hgo : ckGo l.length 0 l = [] := by rw [hgo]; simp [ckGo]
        have hl1 : l.length - 1 < l.length := by omega
        have hlast : ckLast l = decide ((l[l.length - 1].op.toNat : Int) = 0 ∨ (l[l.length - 1].op.toNat : Int) = 15) := by
          unfold ckLast
          rw [List.getLast?_eq_getElem?, List.getElem?_eq_getElem hl1]
        have hcell : (inssV l)[(l.length - 1) * 4]? = some (bV l[l.length - 1].op) := by
          have := flat_get insV_len l (l.length - 1) 0 hl1 (by omega)
          simpa [inssV, insV] using this
        have e0 : ckF l = if ckLast l then [] else [(2, (l.length : Int) - 1)] := by
          unfold ckF; rw [if_neg (by omega), hgo]
        have hpred : ((l.length : Int) - 1) = ((l.length - 1 : Nat) : Int) := by omega
        repeat (first | refine xst ?_ | refine xar ?_ | refine xop ?_ | refine xlen ?_ | refine xld rfl ?_ | refine xsto rfl ?_ | refine xno ?_ | refine xt ?_ | refine xf ?_)
        refine xE 43 (.int .i64 ((l.length - 1 : Nat) : Int)) rfl (by rw [hpred]) ?_
        refine xE 5 (.int .i64 ((l.length - 1 : Nat) : Int)) rfl (by rw [hpred]) ?_
        refine xix ?_
        repeat (first | refine xst ?_ | refine xar ?_ | refine xop ?_ | refine xlen ?_ | refine xld rfl ?_ | refine xsto rfl ?_ | refine xno ?_ | refine xt ?_ | refine xf ?_)
        refine xldl rfl ((l.length - 1) * 4) hcell ?_
        repeat (first | refine xst ?_ | refine xar ?_ | refine xop ?_ | refine xlen ?_ | refine xld rfl ?_ | refine xsto rfl ?_ | refine xno ?_ | refine xt ?_ | refine xf ?_)
        refine xbc 48 (fun g1 => ?_) (fun g1 => ?_)
        · repeat (first | refine xst ?_ | refine xar ?_ | refine xop ?_ | refine xlen ?_ | refine xld rfl ?_ | refine xsto rfl ?_ | refine xno ?_ | refine xt ?_ | refine xf ?_)
          refine xix ?_
          repeat (first | refine xst ?_ | refine xar ?_ | refine xop ?_ | refine xlen ?_ | refine xld rfl ?_ | refine xsto rfl ?_ | refine xno ?_ | refine xt ?_ | refine xf ?_)
          refine xldl rfl ((l.length - 1) * 4) hcell ?_
          repeat (first | refine xst ?_ | refine xar ?_ | refine xop ?_ | refine xlen ?_ | refine xld rfl ?_ | refine xsto rfl ?_ | refine xno ?_ | refine xt ?_ | refine xf ?_)
          refine xb (fun g2 => ?_) (fun g2 => ?_)
          · repeat (first | refine xst ?_ | refine xar ?_ | refine xop ?_ | refine xlen ?_ | refine xld rfl ?_ | refine xsto rfl ?_ | refine xno ?_ | refine xt ?_ | refine xf ?_)
            refine xcall (new_spec 2 ((l.length - 1 : Nat) : Int)) ?_
            rintro v H rfl
            refine G.app ?_
            repeat (first | refine xst ?_ | refine xar ?_ | refine xop ?_ | refine xlen ?_ | refine xld rfl ?_ | refine xsto rfl ?_ | refine xno ?_ | refine xt ?_ | refine xf ?_)
            refine xretp [0] ?_
            have g2 : ¬ ((l[l.length - 1].op.toNat : Int) = 15) := by simpa using g2
            have e : newF 2 ((l.length - 1 : Nat) : Int) = ckF l := by
              rw [e0, hlast, decide_eq_false (by simp only [not_or]; exact ⟨by simpa using g1, g2⟩), hpred]; rfl
            rw [e]; rfl
          · repeat (first | refine xst ?_ | refine xar ?_ | refine xop ?_ | refine xlen ?_ | refine xld rfl ?_ | refine xsto rfl ?_ | refine xno ?_ | refine xt ?_ | refine xf ?_)
            refine G.fold (chain [] .nilIface) [] (fun w F _ => chain_nil w F) ?_
            refine xretp [0] ?_
            have g2 : ((l[l.length - 1].op.toNat : Int) = 15) := by simpa using g2
            have e : [] = ckF l := by
              rw [e0, hlast, decide_eq_true (.inr g2)]; rfl
            rw [← e]; rfl
        · repeat (first | refine xst ?_ | refine xar ?_ | refine xop ?_ | refine xlen ?_ | refine xld rfl ?_ | refine xsto rfl ?_ | refine xno ?_ | refine xt ?_ | refine xf ?_)
          refine G.fold (chain [] .nilIface) [] (fun w F _ => chain_nil w F) ?_
          refine xretp [0] ?_
          have e : [] = ckF l := by
            rw [e0, hlast, decide_eq_true (.inl (by simpa using g1))]; rfl
          rw [← e]; rfl
end Go.Proofs.YthlaacnjgdmakaaDoor
