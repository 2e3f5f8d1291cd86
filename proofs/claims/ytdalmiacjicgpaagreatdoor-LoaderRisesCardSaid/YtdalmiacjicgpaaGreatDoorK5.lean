/- Part of the proof: LAs, LFa, LBy, LOc, LOd, LKa -/
import Derived.Test.YtdalmiacjicgpaaGreatDoorK4
import Derived.Test.YtdalmiacjicgpaaGreatDoorK2
import Derived.WalkKit
import Derived.LaidEql
import Derived.Stop.Asserts
import Derived.RowKitTokens
import Derived.Test.YtdalmiacjicgpaaGreatDoorK3
/- errors.As at the concrete target '*fault.Fault': the two ways (after the guide's worked text ToyasAs, turned to this translation's numbers), and fault.outermost above it. -/
namespace Go.Proofs.YtdalmiacjicgpaaGreatDoor
open Go.RowKit Go.Extern.Stop Go.Stop Go.Extern

/-- errors.As(nil, target). -/
theorem as_nil (t : Value) (w : World) :
    Calls Tryz.prog 131 #[.nilIface, t] w fun e w' => e = .returned (.bool false) ∧ w' = w := by
  go_enter Tryz.func131, Tryz.ntmps131
  go_wp2
  go_ret
  exact ⟨rfl, rfl⟩

/-! ### CLOSED FACTS ON THE MODEL's ENTRIES FOR internal/reflectlite, at this program's types: 25: *p.E · 27: **p.E · 23: error · 45: reflectlite's rtype · 1: how many package-level variables the dump has -/
theorem As.valueOf27 (t : Addr) (w : World) : (ReflectliteValue.unpack (.iface 249 (.pointer (some t)))).run Tryz.prog w
    = .ok (.agg #[.pointer (some ⟨5, 249, none⟩), .pointer (some ⟨w.heap.size, 0, none⟩), .int .u64 150]) (w.alloc (.cells #[.pointer (some t)] 249)) := by kernel_rfl
theorem As.type27 (a : Addr) (w : World) : (ReflectliteValue.methodAny (ReflectliteValue.valueError "reflectlite.Value.Type" 0) (fun t _ _ _ => ReflectliteType.toType t) #[.agg #[.pointer (some ⟨5, 249, none⟩), .pointer (some a), .int .u64 150]]).run Tryz.prog w
    = .ok (.iface 308 (.agg #[.pointer (some ⟨5, 249, none⟩)])) w := by kernel_rfl
theorem As.methodKind (h : Value) (w : World) : (Go.method 470 308 (.agg #[h]) "Kind").run Tryz.prog w = .ok (215, h) w := by kernel_rfl
theorem As.kind27 (w : World) : ((ReflectliteType.abiMethod fun t => (fun a : Nat => Value.int IntKind.u8 (a : Int)) <$> Rtype.kind t) #[.pointer (some ⟨5, 249, none⟩)]).run Tryz.prog w = .ok (.int .u8 22) w := by kernel_rfl
theorem As.kind25 (w : World) : ((ReflectliteType.abiMethod fun t => (fun a : Nat => Value.int IntKind.u8 (a : Int)) <$> Rtype.kind t) #[.pointer (some ⟨5, 179, none⟩)]).run Tryz.prog w = .ok (.int .u8 22) w := by kernel_rfl

/-! ### THE ENTRIES THAT READ OR WRITE MEMORY: laws with a premise on the cell (after Derived/Lib/ReflectliteSlice.lean's manner: each unfolding a lemma of its own, by rfl) -/
theorem rlm (z : Sem Value) (f : TypeId → Addr → Nat → Nat → Sem Value) (v : Value) :
    ReflectliteValue.method z f #[v] = (do match ← ReflectliteValue.parts v with | none => z | some (t, a, fl) => f t a fl (fl % 32)) := rfl
theorem As.parts27 (a : Addr) (w : World) : (ReflectliteValue.parts (.agg #[.pointer (some ⟨5, 249, none⟩), .pointer (some a), .int .u64 150])).run Tryz.prog w = .ok (some (249, a, 150)) w := by kernel_rfl
/-- (Value).IsNil at the Value of a **p.E that is not nil. -/
theorem As.isNil27 (a p : Addr) (W : World) (ha : W.cell? a = some (.pointer (some p))) :
    (ReflectliteValue.method (ReflectliteValue.valueError "reflectlite.Value.IsNil" 0) ReflectliteValue.isNil #[.agg #[.pointer (some ⟨5, 249, none⟩), .pointer (some a), .int .u64 150]]).run Tryz.prog W = .ok (.bool false) W := by
  rw [rlm]
  simp only [Sem.run_bind, As.parts27, Result.andThen]
  simp [ReflectliteValue.isNil, loadVar, isAgg, underlying, Tryz.underlying249, ha, Result.andThen]

theorem As.methodElem (h : Value) (w : World) : (Go.method 470 308 (.agg #[h]) "Elem").run Tryz.prog w = .ok (233, .agg #[h]) w := by kernel_rfl
theorem As.methodImplements (h : Value) (w : World) : (Go.method 470 308 (.agg #[h]) "Implements").run Tryz.prog w = .ok (234, .agg #[h]) w := by kernel_rfl
theorem As.methodAssignableTo (h : Value) (w : World) : (Go.method 470 308 (.agg #[h]) "AssignableTo").run Tryz.prog w = .ok (231, .agg #[h]) w := by kernel_rfl
theorem As.elem27 (w : World) : (ReflectliteType.method ReflectliteType.elem #[.agg #[.pointer (some ⟨5, 249, none⟩)]]).run Tryz.prog w = .ok (.iface 308 (.agg #[.pointer (some ⟨5, 179, none⟩)])) w := by kernel_rfl
theorem As.implements25 (w : World) : (ReflectliteType.relation "Implements" ReflectliteType.implements_ #[.agg #[.pointer (some ⟨5, 179, none⟩)], .iface 308 (.agg #[.pointer (some ⟨5, 54, none⟩)])]).run Tryz.prog w = .ok (.bool true) w := by kernel_rfl
theorem As.typeOf25 (v : Value) (w : World) : (ReflectliteType.typeOf #[.iface 179 v]).run Tryz.prog w = .ok (.iface 308 (.agg #[.pointer (some ⟨5, 179, none⟩)])) w := by kernel_rfl
theorem As.assignable25 (w : World) : (ReflectliteType.relation "AssignableTo" ReflectliteType.assignableTo #[.agg #[.pointer (some ⟨5, 179, none⟩)], .iface 308 (.agg #[.pointer (some ⟨5, 179, none⟩)])]).run Tryz.prog w = .ok (.bool true) w := by kernel_rfl
theorem As.valueOf25 (e : Addr) (w : World) : (ReflectliteValue.unpack (.iface 179 (.pointer (some e)))).run Tryz.prog w
    = .ok (.agg #[.pointer (some ⟨5, 179, none⟩), .pointer (some ⟨w.heap.size, 0, none⟩), .int .u64 150]) (w.alloc (.cells #[.pointer (some e)] 179)) := by kernel_rfl

theorem As.elemOf27 (w : World) : (Rtype.elem? 249).run Tryz.prog w = .ok (some 179) w := by kernel_rfl
theorem As.mk25 (p : Addr) (w : World) : (ReflectliteValue.mk 179 p ReflectliteValue.flagAddr).run Tryz.prog w = .ok (.agg #[.pointer (some ⟨5, 179, none⟩), .pointer (some p), .int .u64 406]) w := by kernel_rfl
/-- (Value).Elem at the Value of a **p.E that is not nil: the Value of the *p.E variable that it points to, addressable. -/
theorem As.elemV27 (a p : Addr) (W : World) (ha : W.cell? a = some (.pointer (some p))) :
    (ReflectliteValue.method (ReflectliteValue.valueError "reflectlite.Value.Elem" 0) ReflectliteValue.elem #[.agg #[.pointer (some ⟨5, 249, none⟩), .pointer (some a), .int .u64 150]]).run Tryz.prog W
      = .ok (.agg #[.pointer (some ⟨5, 179, none⟩), .pointer (some p), .int .u64 406]) W := by
  rw [rlm]
  simp only [Sem.run_bind, As.parts27, Result.andThen]
  simp [ReflectliteValue.elem, loadVar, isAgg, underlying, Tryz.underlying249, ha, Result.andThen, As.elemOf27, As.mk25]
theorem rls (v x : Value) : ReflectliteValue.set #[v, x] = (do
    let (some (dst, a, fl), some (src, b, _)) := (← ReflectliteValue.parts v, ← ReflectliteValue.parts x)
      | unsupported (.noEntry "extern/(internal/reflectlite.Value).Set.zeroValue")
    if fl / ReflectliteValue.flagAddr % 2 == 0 then unsupported (.noEntry "extern/(internal/reflectlite.Value).Set.unaddressable")
    let val ← loadVar src b
    if ← Rtype.directlyAssignable dst src then storeVar dst a val
    else if ← Rtype.implements dst src then
      if (← Rtype.kind src) == 20 then
        match val with
        | .nilIface => unsupported (.noEntry "extern/reflectlite: a nil value of one interface type handed on as a value of another")
        | _ => storeVar dst a val
      else storeVar dst a (.iface src val)
    else panicString ("reflectlite.Set: value of type " ++ (← Rtype.spelt src) ++ " is not assignable to type " ++ (← Rtype.spelt dst))
    pure (.tuple #[])) := rfl
theorem As.parts25a (a : Addr) (w : World) : (ReflectliteValue.parts (.agg #[.pointer (some ⟨5, 179, none⟩), .pointer (some a), .int .u64 406])).run Tryz.prog w = .ok (some (179, a, 406)) w := by kernel_rfl
theorem As.parts25 (a : Addr) (w : World) : (ReflectliteValue.parts (.agg #[.pointer (some ⟨5, 179, none⟩), .pointer (some a), .int .u64 150])).run Tryz.prog w = .ok (some (179, a, 150)) w := by kernel_rfl
theorem As.direct25 (w : World) : (Rtype.directlyAssignable 179 179).run Tryz.prog w = .ok true w := by kernel_rfl
theorem As.size25 (w : World) : (sizeOf 179).run Tryz.prog w = .ok 1 w := by kernel_rfl
/-- (Value).Set: the *p.E variable at 'ta' gets what the Value's own variable 'b' holds. -/
theorem As.set25 (ta b e : Addr) (old : Value) (W : World) (hb : W.cell? b = some (.pointer (some e))) (ht : W.cell? ta = some old) (hf : W.frozen? ta = false) :
    (ReflectliteValue.set #[.agg #[.pointer (some ⟨5, 179, none⟩), .pointer (some ta), .int .u64 406], .agg #[.pointer (some ⟨5, 179, none⟩), .pointer (some b), .int .u64 150]]).run Tryz.prog W
      = .ok (.tuple #[]) (W.setCell ta (.pointer (some e))) := by
  rw [rls]
  simp only [Sem.run_bind, As.parts25a, As.parts25, Result.andThen]
  simp [ReflectliteValue.flagAddr, loadVar, isAgg, underlying, Tryz.underlying179, hb, Result.andThen, As.direct25, storeVar, Value.cells, storeCells, Addr.add]
  rw [run_store Tryz.prog W ta _ _ (by rfl)]
  simp [ht, hf]

set_option maxHeartbeats 4000000 in
theorem as_hit (e t : Addr) (old : Value) (w : World) (hg : w.cell? ⟨3, 0, none⟩ = some (.iface 308 (.agg #[.pointer (some ⟨5, 54, none⟩)]))) (ht0 : w.cell? t = some old) (hf0 : w.frozen? t = false) :
    Calls Tryz.prog 131 #[.iface 179 (.pointer (some e)), .iface 249 (.pointer (some t))] w fun ev w' => ev = .returned (.bool true) ∧ w' = ((((w.alloc (.cells #[.pointer (some t)] 249)).alloc (.cells #[.pointer (some ⟨5, 249, none⟩), .pointer (some ⟨w.heap.size, 0, none⟩), .int .u64 150] 287)).alloc (.cells #[.pointer (some ⟨5, 249, none⟩), .pointer (some ⟨w.heap.size, 0, none⟩), .int .u64 150] 287)).alloc (.cells #[.pointer (some e)] 179)).setCell t (.pointer (some e)) := by
  have h6 := @run_callFunc_extern Tryz.prog 161 _ (fun args => ReflectliteValue.unpack (args.getD 0 (.tuple #[]))) Tryz.func161 (by kernel_rfl) (by kernel_rfl) (by kernel_rfl) (by kernel_rfl)
  have h7 := @run_callFunc_extern Tryz.prog 162 _ (ReflectliteValue.methodAny (ReflectliteValue.valueError "reflectlite.Value.Type" 0) (fun t _ _ _ => ReflectliteType.toType t)) Tryz.func162 (by kernel_rfl) (by kernel_rfl) (by kernel_rfl) (by kernel_rfl)
  have h8 := @run_callFunc_extern Tryz.prog 163 _ (ReflectliteValue.method (ReflectliteValue.valueError "reflectlite.Value.IsNil" 0) ReflectliteValue.isNil) Tryz.func163 (by kernel_rfl) (by kernel_rfl) (by kernel_rfl) (by kernel_rfl)
  have h27 := @run_callFunc_extern Tryz.prog 215 _ (ReflectliteType.abiMethod fun t => do pure (.int .u8 (← Rtype.kind t))) Tryz.func215 (by kernel_rfl) (by kernel_rfl) (by kernel_rfl) (by kernel_rfl)
  have h37 := @run_callFunc_extern Tryz.prog 233 _ (ReflectliteType.method ReflectliteType.elem) Tryz.func233 (by kernel_rfl) (by kernel_rfl) (by kernel_rfl) (by kernel_rfl)
  have h38 := @run_callFunc_extern Tryz.prog 234 _ (ReflectliteType.relation "Implements" ReflectliteType.implements_) Tryz.func234 (by kernel_rfl) (by kernel_rfl) (by kernel_rfl) (by kernel_rfl)
  have h10 := @run_callFunc_extern Tryz.prog 179 _ ReflectliteType.typeOf Tryz.func179 (by kernel_rfl) (by kernel_rfl) (by kernel_rfl) (by kernel_rfl)
  have h35 := @run_callFunc_extern Tryz.prog 231 _ (ReflectliteType.relation "AssignableTo" ReflectliteType.assignableTo) Tryz.func231 (by kernel_rfl) (by kernel_rfl) (by kernel_rfl) (by kernel_rfl)
  have h11 := @run_callFunc_extern Tryz.prog 180 _ (ReflectliteValue.method (ReflectliteValue.valueError "reflectlite.Value.Elem" 0) ReflectliteValue.elem) Tryz.func180 (by kernel_rfl) (by kernel_rfl) (by kernel_rfl) (by kernel_rfl)
  have h12 := @run_callFunc_extern Tryz.prog 181 _ ReflectliteValue.set Tryz.func181 (by kernel_rfl) (by kernel_rfl) (by kernel_rfl) (by kernel_rfl)
  have tO := As.typeOf25
  have mA := As.methodAssignableTo
  have a25 := As.assignable25
  have v25 := As.valueOf25
  have f6 := As.valueOf27
  have f7 := As.type27
  have mK := As.methodKind
  have mE := As.methodElem
  have mI := As.methodImplements
  have k27 := As.kind27
  have k25 := As.kind25
  have e27 := As.elem27
  have i25 := As.implements25
  have n8 := As.isNil27 ⟨w.heap.size, 0, none⟩ t ((w.alloc (.cells #[.pointer (some t)] 249)).alloc (.cells #[.pointer (some ⟨5, 249, none⟩), .pointer (some ⟨w.heap.size, 0, none⟩), .int .u64 150] 287)) (by simp)
  have hlt : 3 < w.heap.size := by
    rcases Nat.lt_or_ge 3 w.heap.size with h | h
    · exact h
    · simp [World.cell?, Array.getElem?_eq_none h] at hg
  have hg2 : ((w.alloc (.cells #[.pointer (some t)] 249)).alloc (.cells #[.pointer (some ⟨5, 249, none⟩), .pointer (some ⟨w.heap.size, 0, none⟩), .int .u64 150] 287)).cell? ⟨3, 0, none⟩ = some (.iface 308 (.agg #[.pointer (some ⟨5, 54, none⟩)])) := by
    rw [World.cell?_alloc_lt _ _ ⟨3, 0, none⟩ (by simp; omega), World.cell?_alloc_lt _ _ ⟨3, 0, none⟩ hlt]; exact hg
  have htl : t.block < w.heap.size := by
    rcases Nat.lt_or_ge t.block w.heap.size with h | h
    · exact h
    · simp [World.cell?, Array.getElem?_eq_none h] at ht0
  have el := As.elemV27 ⟨w.heap.size, 0, none⟩ t (((w.alloc (.cells #[.pointer (some t)] 249)).alloc (.cells #[.pointer (some ⟨5, 249, none⟩), .pointer (some ⟨w.heap.size, 0, none⟩), .int .u64 150] 287)).alloc (.cells #[.pointer (some ⟨5, 249, none⟩), .pointer (some ⟨w.heap.size, 0, none⟩), .int .u64 150] 287)) (by rw [World.cell?_alloc_lt _ _ ⟨w.heap.size, 0, none⟩ (by simp; omega)]; simp)
  have st := As.set25 t ⟨w.heap.size + 1 + 1 + 1, 0, none⟩ e old ((((w.alloc (.cells #[.pointer (some t)] 249)).alloc (.cells #[.pointer (some ⟨5, 249, none⟩), .pointer (some ⟨w.heap.size, 0, none⟩), .int .u64 150] 287)).alloc (.cells #[.pointer (some ⟨5, 249, none⟩), .pointer (some ⟨w.heap.size, 0, none⟩), .int .u64 150] 287)).alloc (.cells #[.pointer (some e)] 179))
    (by rw [World.cell?_alloc_at _ _ _ _ (by simp)]; rfl)
    (by rw [World.cell?_alloc_lt _ _ t (by simp; omega), World.cell?_alloc_lt _ _ t (by simp; omega), World.cell?_alloc_lt _ _ t (by simp; omega), World.cell?_alloc_lt _ _ t htl]; exact ht0)
    (by rw [World.frozen?_alloc_old _ _ t (by simp; omega), World.frozen?_alloc_old _ _ t (by simp; omega), World.frozen?_alloc_old _ _ t (by simp; omega), World.frozen?_alloc_old _ _ t (Nat.ne_of_lt htl)]; exact hf0)
  go_enter Tryz.func131, Tryz.ntmps131
  go_wp2
  refine wp_loop_rounds 1 ?_
  rw [rounds_succ]
  go_wp2
  go_ret
  exact ⟨rfl, rfl⟩

end Go.Proofs.YtdalmiacjicgpaaGreatDoor

/- fault: errors with positions. -/
namespace Go.Proofs.YtdalmiacjicgpaaGreatDoor
open Go.W

/-- The variable of errors that holds the handle of the type 'error'. -/
def gErr : HProp := rdb 3 [.iface 308 (.agg #[.pointer (some ⟨5, 54, none⟩)])]

theorem as_nil_spec (t : Value) : Fun Tryz.prog 131 [.nilIface, t] [] [] fun v H => v = .bool false ∧ H = [] := by
  refine ⟨Tryz.call131, fun w F _ _ hi => (as_nil t w).mono ?_⟩
  rintro e w' ⟨rfl, rfl⟩
  exact ⟨_, _, F, rfl, ⟨rfl, rfl⟩, trivial, Fr.refl hi⟩

theorem as_hit_spec (e : Addr) (b : Nat) (old : Value) : Fun Tryz.prog 131 [.iface 179 (.pointer (some e)), .iface 249 (.pointer (some ⟨b, 0, none⟩))] [gErr] [pts b [old]]
    fun v H => v = .bool true ∧ H = [pts b [.pointer (some e)]] := by
  refine ⟨Tryz.call131, fun w F hrd hs hi => ?_⟩
  obtain ⟨S, ⟨_, hg⟩, _⟩ := hrd gErr (by simp)
  obtain ⟨F1, F2, ⟨hb, ho⟩, _, _, hF1, _⟩ := hs
  refine (as_hit e ⟨b, 0, none⟩ old w (hg.cell rfl) (ho.blk.cell rfl) (ho.free (by simp))).mono ?_
  rintro ev w' ⟨rfl, rfl⟩
  have hbl := ho.blk.lt
  have key : ∀ (w1 : World), w.heap.size ≤ w1.heap.size → (∀ c, c < w.heap.size → w1.heap[c]? = w.heap[c]?) → w1.tape = w.tape → w1.os = w.os → w1.output = w.output →
      Res w F (fun v H => v = .bool true ∧ H = [pts b [.pointer (some e)]]) (.returned (.bool true)) (w1.setCell ⟨b, 0, none⟩ (.pointer (some e))) := by
    intro w1 hsz hk ht hos hout
    have ho1 : ownAt w1 b [old] := by
      obtain ⟨T, lo, hi', h1, h2⟩ := ho
      exact ⟨T, lo, hi', by rw [hk b hbl]; exact h1, h2⟩
    refine ⟨_, _, F, rfl, ⟨rfl, rfl⟩, ⟨F, fun _ => False, ⟨hF1 b hb, by simpa using ho1.set 0 (.pointer (some e))⟩, trivial, fun _ _ h => h, fun _ h => h, fun _ h => h.elim⟩, ?_⟩
    refine ⟨by rw [setCell_size]; exact hsz, fun c hc hn => ?_, fun _ h _ => h, fun c hc => by rw [setCell_size]; exact Nat.lt_of_lt_of_le (hi c hc) hsz, ht, hos, hout⟩
    rw [setCell_other (by rintro rfl; exact hn (hF1 _ hb)), hk c hc]
  refine key _ (by simp; omega) (fun c hc => ?_) rfl rfl rfl
  simp only [World.alloc]
  rw [Array.getElem?_push_lt (by simp; omega), ← Array.getElem?_eq_getElem, Array.getElem?_push_lt (by simp; omega), ← Array.getElem?_eq_getElem, Array.getElem?_push_lt (by simp; omega), ← Array.getElem?_eq_getElem,
    Array.getElem?_push_lt hc, ← Array.getElem?_eq_getElem]

/-- An error's chain: codes and positions. -/
def chain : List (Int × Int) → Value → HProp
  | [], v => pureP (v = .nilIface)
  | (c, a) :: l, v => exP fun b : Nat => exP fun u : Value => starP [pureP (v = .iface 179 (.pointer (some ⟨b, 0, none⟩)) ∧ oneC u = true), pts b [.int .i64 c, .int .i64 a, u], chain l u]

theorem outer_nil : Fun Tryz.prog 86 [.nilIface] [] [] fun v H => v = .pointer none ∧ H = [] := by
  refine xenter (p := pg) Tryz.call86 Tryz.func86 fun C => ?_
  repeat (first | refine xst ?_ | refine xar ?_ | refine xop ?_ | refine xlen ?_ | refine xld rfl ?_ | refine xsto rfl ?_ | refine xno ?_ | refine xt ?_ | refine xf ?_)
  refine xnew fun b => ?_
  repeat (first | refine xst ?_ | refine xar ?_ | refine xop ?_ | refine xlen ?_ | refine xld rfl ?_ | refine xsto rfl ?_ | refine xno ?_ | refine xt ?_ | refine xf ?_)
  refine xcall (as_nil_spec _) ?_
  rintro v H ⟨rfl, rfl⟩
  refine G.app ?_
  repeat (first | refine xst ?_ | refine xar ?_ | refine xop ?_ | refine xlen ?_ | refine xld rfl ?_ | refine xsto rfl ?_ | refine xno ?_ | refine xt ?_ | refine xf ?_)
  exact xret [] ⟨rfl, rfl⟩
theorem outer_hit (e : Addr) : Fun Tryz.prog 86 [.iface 179 (.pointer (some e))] [gErr] [] fun v H => v = .pointer (some e) ∧ H = [] := by
  refine xenter (p := pg) Tryz.call86 Tryz.func86 fun C => ?_
  haveI := RP.of C (X := gErr) (by simp)
  repeat (first | refine xst ?_ | refine xar ?_ | refine xop ?_ | refine xlen ?_ | refine xld rfl ?_ | refine xsto rfl ?_ | refine xno ?_ | refine xt ?_ | refine xf ?_)
  refine xnew fun b => ?_
  repeat (first | refine xst ?_ | refine xar ?_ | refine xop ?_ | refine xlen ?_ | refine xld rfl ?_ | refine xsto rfl ?_ | refine xno ?_ | refine xt ?_ | refine xf ?_)
  refine xcall (as_hit_spec e b (.pointer none)) ?_
  rintro v H ⟨rfl, rfl⟩
  refine G.app ?_
  repeat (first | refine xst ?_ | refine xar ?_ | refine xop ?_ | refine xlen ?_ | refine xld rfl ?_ | refine xsto rfl ?_ | refine xno ?_ | refine xt ?_ | refine xf ?_)
  exact xret [] ⟨rfl, rfl⟩

def newF (c a : Int) : List (Int × Int) := if c = 0 then [] else [(c, a)]
def inF (l : List (Int × Int)) (a : Int) : List (Int × Int) := match l with | [] => [] | (c, _) :: _ => (c, a) :: l
def codeF (l : List (Int × Int)) : Int := match l with | [] => 0 | (c, _) :: _ => c

theorem chain_nil (w : World) (F : Foot) : (chain [] .nilIface).holds w F := rfl
theorem chain_cons {c a : Int} {l : List (Int × Int)} {b : Nat} {u : Value} (hu : oneC u = true) (w : World) (F : Foot) (h : Sat [pts b [.int .i64 c, .int .i64 a, u], chain l u] w F) :
    (chain ((c, a) :: l) (.iface 179 (.pointer (some ⟨b, 0, none⟩)))).holds w F :=
  ⟨b, u, fun _ => False, F, ⟨rfl, hu⟩, h, fun _ h => h.elim, fun _ h => h.elim, fun _ h => h⟩

theorem new_spec (c a : Int) : Fun Tryz.prog 53 [.int .i64 c, .int .i64 a] [] [] fun v H => H = [chain (newF c a) v] := by
  refine xenter (p := pg) Tryz.call53 Tryz.func53 fun C => ?_
  repeat (first | refine xst ?_ | refine xar ?_ | refine xop ?_ | refine xlen ?_ | refine xld rfl ?_ | refine xsto rfl ?_ | refine xno ?_ | refine xt ?_ | refine xf ?_)
  refine xd (fun h => ?_) (fun h => ?_)
  · repeat (first | refine xst ?_ | refine xar ?_ | refine xop ?_ | refine xlen ?_ | refine xld rfl ?_ | refine xsto rfl ?_ | refine xno ?_ | refine xt ?_ | refine xf ?_)
    refine G.fold (chain [] .nilIface) [] (fun w F _ => chain_nil w F) ?_
    refine xret [chain [] .nilIface] ?_
    simp [newF, h, resV]
  · repeat (first | refine xst ?_ | refine xar ?_ | refine xop ?_ | refine xlen ?_ | refine xld rfl ?_ | refine xsto rfl ?_ | refine xno ?_ | refine xt ?_ | refine xf ?_)
    refine xnew fun b => ?_
    repeat (first | refine xst ?_ | refine xar ?_ | refine xop ?_ | refine xlen ?_ | refine xld rfl ?_ | refine xsto rfl ?_ | refine xno ?_ | refine xt ?_ | refine xf ?_)
    refine G.fold (chain [] .nilIface) [] (fun w F _ => chain_nil w F) ?_
    refine G.fold _ [pts b [.int .i64 c, .int .i64 a, .nilIface], chain [] .nilIface] (fun w F h => chain_cons rfl w F h) ?_
    refine xretp [0] ?_
    simp [newF, h, resV]

/-- The chain of an error that is read: what it holds, in memory. -/
theorem chain_rd {fn : Func} {rd : List HProp} {post : Post} {C : Ctx pg fn rd post} {c a : Int} {l : List (Int × Int)} {v : Value} (h : RP C (chain ((c, a) :: l) v)) :
    ∃ b u, v = .iface 179 (.pointer (some ⟨b, 0, none⟩)) ∧ oneC u = true ∧ RB C b [.int .i64 c, .int .i64 a, u] ∧ RP C (chain l u) := by
  obtain ⟨b, h⟩ := RP.ex (f := fun b : Nat => exP fun u : Value => starP [pureP (v = .iface 179 (.pointer (some ⟨b, 0, none⟩)) ∧ oneC u = true), pts b [.int .i64 c, .int .i64 a, u], chain l u]) h
  obtain ⟨u, h⟩ := h.ex
  have h := h.star
  have h1 := (h _ List.mem_cons_self).pure
  exact ⟨b, u, h1.1, h1.2, (h _ (by simp)).pts, h _ (by simp)⟩
theorem chain_rd0 {fn : Func} {rd : List HProp} {post : Post} {C : Ctx pg fn rd post} {v : Value} (h : RP C (chain [] v)) : v = .nilIface := RP.pure h

theorem outer_spec (l : List (Int × Int)) (v : Value) : Fun Tryz.prog 86 [v] [gErr, chain l v] [] fun u H => H = [] ∧
    match l with | [] => u = .pointer none | _ => ∃ b, v = .iface 179 (.pointer (some ⟨b, 0, none⟩)) ∧ u = .pointer (some ⟨b, 0, none⟩) := by
  refine ⟨Tryz.call86, fun w F hrd hs hi => ?_⟩
  obtain ⟨S, hch, hS⟩ := hrd (chain l v) (by simp)
  cases l with
  | nil =>
    have hv : v = .nilIface := hch
    subst hv
    exact (outer_nil.mono fun v H h => ⟨h.2, h.1⟩).calls w F Rd.nil hs hi
  | cons q l =>
    obtain ⟨c, a⟩ := q
    obtain ⟨b, u, F1, F2, ⟨hv, _⟩, _⟩ := hch
    subst hv
    exact ((outer_hit ⟨b, 0, none⟩).mono fun v H h => ⟨h.2, b, rfl, h.1⟩).calls w F (fun r hr => hrd r (by simp at hr; simp [hr])) hs hi

theorem code_spec (l : List (Int × Int)) (v : Value) : Fun Tryz.prog 43 [v] [gErr, chain l v] [] fun u H => u = .int .i64 (codeF l) ∧ H = [] := by
  refine xenter (p := pg) Tryz.call43 Tryz.func43 fun C => ?_
  haveI := RP.of C (X := gErr) (by simp)
  haveI hc := RP.of C (X := chain l v) (by simp)
  repeat (first | refine xst ?_ | refine xar ?_ | refine xop ?_ | refine xlen ?_ | refine xld rfl ?_ | refine xsto rfl ?_ | refine xno ?_ | refine xt ?_ | refine xf ?_)
  refine xcall (outer_spec l v) ?_
  rintro u H ⟨rfl, h⟩
  refine G.app ?_
  cases l with
  | nil =>
    subst h
    repeat (first | refine xst ?_ | refine xar ?_ | refine xop ?_ | refine xlen ?_ | refine xld rfl ?_ | refine xsto rfl ?_ | refine xno ?_ | refine xt ?_ | refine xf ?_)
    refine xret [] ⟨rfl, rfl⟩
  | cons q l =>
    obtain ⟨c, a⟩ := q
    obtain ⟨b, hv, rfl⟩ := h
    obtain ⟨b', u', hv', _, hb, _⟩ := chain_rd hc
    rw [hv] at hv'
    simp at hv'
    subst hv'
    repeat (first | refine xst ?_ | refine xar ?_ | refine xop ?_ | refine xlen ?_ | refine xld rfl ?_ | refine xsto rfl ?_ | refine xno ?_ | refine xt ?_ | refine xf ?_)
    refine xret [] ⟨rfl, rfl⟩

theorem in_spec (l : List (Int × Int)) (v : Value) (a : Int) (hv : oneC v = true) : Fun Tryz.prog 55 [v, .int .i64 a] [gErr] [chain l v] fun u H => H = [chain (inF l a) u] := by
  refine xenter (p := pg) Tryz.call55 Tryz.func55 fun C => ?_
  haveI := RP.of C (X := gErr) (by simp)
  cases l with
  | nil =>
    refine G.fact (chain [] v) (P := v = .nilIface) (fun w F h => h) fun h => ?_
    subst h
    repeat (first | refine xst ?_ | refine xar ?_ | refine xop ?_ | refine xlen ?_ | refine xld rfl ?_ | refine xsto rfl ?_ | refine xno ?_ | refine xt ?_ | refine xf ?_)
    exact xret [chain [] .nilIface] rfl
  | cons q l =>
    obtain ⟨c, a0⟩ := q
    refine G.fact (chain ((c, a0) :: l) v) (P := ∃ b : Nat, v = .iface 179 (.pointer (some ⟨b, 0, none⟩))) (fun w F h => by obtain ⟨b, u, F1, F2, ⟨h1, h2⟩, _⟩ := h; exact ⟨b, h1⟩) fun h => ?_
    obtain ⟨b, rfl⟩ := h
    repeat (first | refine xst ?_ | refine xar ?_ | refine xop ?_ | refine xlen ?_ | refine xld rfl ?_ | refine xsto rfl ?_ | refine xno ?_ | refine xt ?_ | refine xf ?_)
    refine xcall (code_spec ((c, a0) :: l) _) ?_
    rintro u H ⟨hu, rfl⟩
    simp only [codeF] at hu
    subst hu
    refine G.app ?_
    repeat (first | refine xst ?_ | refine xar ?_ | refine xop ?_ | refine xlen ?_ | refine xld rfl ?_ | refine xsto rfl ?_ | refine xno ?_ | refine xt ?_ | refine xf ?_)
    refine xnew fun b2 => ?_
    repeat (first | refine xst ?_ | refine xar ?_ | refine xop ?_ | refine xlen ?_ | refine xld rfl ?_ | refine xsto rfl ?_ | refine xno ?_ | refine xt ?_ | refine xf ?_)
    refine G.fold _ [pts b2 [.int .i64 c, .int .i64 a, .iface 179 (.pointer (some ⟨b, 0, none⟩))], chain ((c, a0) :: l) (.iface 179 (.pointer (some ⟨b, 0, none⟩)))] (fun w F h => chain_cons rfl w F h) ?_
    refine xretp [0] ?_
    simp [inF, resV]

/-- fault.Path -/
def posV (l : List (Int × Int)) : List Value := l.map fun q => .int .i64 q.2
structure PathSt where
  rest : List (Int × Int)
  done : List (Int × Int)
  a : Option Addr
  cap : Nat
  ptr : Value
def PathI {fn : Func} {rd : List HProp} {post : Post} (C : Ctx pg fn rd post) (l : List (Int × Int)) (s : PathSt) : Prop :=
  s.done ++ s.rest = l ∧ match s.rest with
    | [] => s.ptr = .pointer none
    | (c, x) :: r => ∃ b u, s.ptr = .pointer (some ⟨b, 0, none⟩) ∧ oneC u = true ∧ RB C b [.int .i64 c, .int .i64 x, u] ∧ RP C (chain r u)
theorem path_spec (l : List (Int × Int)) (v : Value) (hl : l.length ≤ 1000000) : Fun Tryz.prog 50 [v] [gErr, chain l v] [] fun u H => ∃ a cap, u = .slice a l.length cap ∧ H = [sl 1 a l.length cap (posV l)] := by
  refine xenter (p := pg) Tryz.call50 Tryz.func50 fun C => ?_
  haveI := RP.of C (X := gErr) (by simp)
  haveI hc := RP.of C (X := chain l v) (by simp)
  repeat (first | refine xst ?_ | refine xar ?_ | refine xop ?_ | refine xlen ?_ | refine xld rfl ?_ | refine xsto rfl ?_ | refine xno ?_ | refine xt ?_ | refine xf ?_)
  refine xcall (outer_spec l v) ?_
  rintro u H ⟨rfl, h⟩
  refine G.app ?_
  refine G.sln 1 ?_
  have h0 : PathI C l ⟨l, [], none, 0, u⟩ := by
    refine ⟨rfl, ?_⟩
    cases l with
    | nil => exact h
    | cons q l =>
      obtain ⟨c, a⟩ := q
      obtain ⟨b, hv, rfl⟩ := h
      obtain ⟨b', u', hv', hu', hb, hr⟩ := chain_rd hc
      rw [hv] at hv'
      simp at hv'
      subst hv'
      exact ⟨b, u', rfl, hu', hb, hr⟩
  have hu : ∃ x, u = .pointer x := by
    cases l with
    | nil => exact ⟨_, h⟩
    | cons q l => obtain ⟨b, _, h⟩ := h; exact ⟨_, h⟩
  obtain ⟨x, rfl⟩ := hu
  repeat (first | refine xst ?_ | refine xar ?_ | refine xop ?_ | refine xlen ?_ | refine xld rfl ?_ | refine xsto rfl ?_ | refine xno ?_ | refine xt ?_ | refine xf ?_)
  refine G.loop (σ := PathSt) (fun s => [(3, .slice s.a s.done.length s.cap), (4, s.ptr)]) (fun s => [sl 1 s.a s.done.length s.cap (posV s.done)]) (PathI C l) (fun s => s.rest.length) ⟨l, [], none, 0, .pointer x⟩ h0 ⟨rfl, rfl, trivial⟩ (Ent.refl _) ?_
  rintro ⟨rest, done, a, cap, ptr⟩ ⟨h1, h2⟩
  cases rest with
  | nil =>
    obtain rfl : ptr = .pointer none := h2
    show G C _ [(3, .slice a done.length cap), (4, .pointer none)] [sl 1 a done.length cap (posV done)]
    repeat (first | refine xst ?_ | refine xar ?_ | refine xop ?_ | refine xlen ?_ | refine xld rfl ?_ | refine xsto rfl ?_ | refine xno ?_ | refine xt ?_ | refine xf ?_)
    refine xretp [0] ?_
    obtain rfl : done = l := by simpa using h1
    exact ⟨a, cap, rfl, rfl⟩
  | cons q r =>
    obtain ⟨c, y⟩ := q
    obtain ⟨b, u, rfl, hu, hb, hr⟩ := h2
    have hlen : done.length + (r.length + 1) = l.length := by have := congrArg List.length h1; simpa using this
    show G C _ [(3, .slice a done.length cap), (4, .pointer (some ⟨b, 0, none⟩))] [sl 1 a done.length cap (posV done)]
    repeat (first | refine xst ?_ | refine xar ?_ | refine xop ?_ | refine xlen ?_ | refine xld rfl ?_ | refine xsto rfl ?_ | refine xno ?_ | refine xt ?_ | refine xf ?_)
    refine xbsl fun b3 => ?_
    repeat (first | refine xst ?_ | refine xar ?_ | refine xop ?_ | refine xlen ?_ | refine xld rfl ?_ | refine xsto rfl ?_ | refine xno ?_ | refine xt ?_ | refine xf ?_)
    refine xapp (posV done) rfl (SrcOk.blk (ys := [.int .i64 y]) rfl (by simp) (by simp [Value.oneCell'])) (by omega) fun a' cap' => ?_
    repeat (first | refine xst ?_ | refine xar ?_ | refine xop ?_ | refine xlen ?_ | refine xld rfl ?_ | refine xsto rfl ?_ | refine xno ?_ | refine xt ?_ | refine xf ?_)
    refine xcall (outer_spec r u) ?_
    rintro w H ⟨rfl, h⟩
    refine G.app ?_
    have hw : ∃ x, w = .pointer x := by
      cases r with
      | nil => exact ⟨_, h⟩
      | cons q l => obtain ⟨b, _, h⟩ := h; exact ⟨_, h⟩
    obtain ⟨x', rfl⟩ := hw
    repeat (first | refine xst ?_ | refine xar ?_ | refine xop ?_ | refine xlen ?_ | refine xld rfl ?_ | refine xsto rfl ?_ | refine xno ?_ | refine xt ?_ | refine xf ?_)
    refine G.fin ⟨r, done ++ [(c, y)], a', cap', .pointer x'⟩ ⟨⟨by simpa using h1, ?_⟩, by simp⟩ ⟨by rw [List.length_append]; rfl, rfl, trivial⟩ ?_
    · cases r with
      | nil => exact h
      | cons q r =>
        obtain ⟨c', a''⟩ := q
        obtain ⟨b', hv, h⟩ := h
        obtain ⟨b'', u', hv', hu', hb', hr'⟩ := chain_rd hr
        rw [hv] at hv'
        simp at hv'
        subst hv'
        exact ⟨b', u', h, hu', hb', hr'⟩
    · show Ent _ [sl 1 a' (done ++ [(c, y)]).length cap' (posV (done ++ [(c, y)]))]
      rw [show posV (done ++ [(c, y)]) = posV done ++ [.int .i64 y] by simp [posV], List.length_append]
      exact ent_pick
end Go.Proofs.YtdalmiacjicgpaaGreatDoor

/- Bytes and numbers: plain. -/
namespace Go.W

/-- The low bytes of a number, the least one first. -/
def putB (n m : Nat) : List UInt8 := (List.range m).map fun i => UInt8.ofNat (n / 2 ^ (8 * i))
/-- The number that bytes are. -/
def numB : List UInt8 → Nat
  | [] => 0
  | x :: l => x.toNat + 256 * numB l

theorem putB_length (n m : Nat) : (putB n m).length = m := by simp [putB]
theorem putB_get (n m k : Nat) (h : k < (putB n m).length) : (putB n m)[k] = UInt8.ofNat (n / 2 ^ (8 * k)) := by simp [putB]
theorem numB_lt : ∀ l : List UInt8, numB l < 256 ^ l.length
  | [] => by simp [numB]
  | x :: l => by
    have := numB_lt l
    have hx := x.toNat_lt
    simp only [numB, List.length_cons, Nat.pow_succ]
    omega
theorem numB_snoc (l : List UInt8) (x : UInt8) : numB (l ++ [x]) = numB l + x.toNat * 256 ^ l.length := by
  induction l with
  | nil => simp [numB]
  | cons y l ih =>
    simp only [List.cons_append, numB, ih, List.length_cons, Nat.pow_succ]
    rw [Nat.mul_add]
    have : 256 * (x.toNat * 256 ^ l.length) = x.toNat * (256 ^ l.length * 256) := by
      rw [Nat.mul_left_comm, Nat.mul_comm 256]
    omega
theorem pow256 (k : Nat) : 256 ^ k = 2 ^ (8 * k) := by
  rw [show (256 : Nat) = 2 ^ 8 by rfl, ← Nat.pow_mul]

/-- One byte more, by the program's own means. -/
theorem numB_step (l : List UInt8) (x : UInt8) (h : l.length < 8) :
    IntKind.u64.wrap ((BitVec.ofInt IntKind.u64.bits (numB l : Int) ||| BitVec.ofInt IntKind.u64.bits (IntKind.u64.wrap (IntKind.u64.wrap (x.toNat : Int) * 2 ^ (min (8 * l.length) IntKind.u64.bits)))).toNat : Int) = (numB (l ++ [x]) : Int) := by
  have hm : min (8 * l.length) IntKind.u64.bits = 8 * l.length := by simp [IntKind.bits]; omega
  have hx := x.toNat_lt
  have hl := numB_lt l
  rw [pow256] at hl
  have hp : 2 ^ (8 * l.length) ≤ 2 ^ 56 := Nat.pow_le_pow_right (by omega) (by omega)
  have hxl : x.toNat * 2 ^ (8 * l.length) < 18446744073709551616 := by
    have : x.toNat * 2 ^ (8 * l.length) ≤ 255 * 2 ^ 56 := Nat.mul_le_mul (by omega) hp
    omega
  have e : ((x.toNat : Int) * 2 ^ (8 * l.length)) = ((x.toNat * 2 ^ (8 * l.length) : Nat) : Int) := by
    rw [Int.natCast_mul, Int.natCast_pow]; rfl
  rw [u64_wrap (n := x.toNat) (by omega), hm, e, u64_wrap hxl, u64_or (by omega) hxl, numB_snoc, pow256]
  congr 1
  rw [Nat.or_comm, Nat.mul_comm x.toNat, ← Nat.two_pow_add_eq_or_of_lt hl, Nat.add_comm]

theorem putB_byte (n k : Nat) (hk : k < 8) : IntKind.u8.wrap ((n : Int).fdiv (2 ^ (min (8 * k) IntKind.u64.bits))) = ((UInt8.ofNat (n / 2 ^ (8 * k))).toNat : Int) := by
  have hm : min (8 * k) IntKind.u64.bits = 8 * k := by simp [IntKind.bits]; omega
  rw [hm, ← u8_wrap]
  congr 1
  rw [show ((2 : Int) ^ (8 * k)) = ((2 ^ (8 * k) : Nat) : Int) by rw [Int.natCast_pow]; rfl, Int.ofNat_fdiv]

theorem numB_putB : ∀ (m n : Nat), numB (putB n m) = n % 256 ^ m := by
  intro m
  induction m with
  | zero => intro n; simp [putB, numB, Nat.mod_one]
  | succ m ih =>
    intro n
    have e : putB n (m + 1) = putB n m ++ [UInt8.ofNat (n / 2 ^ (8 * m))] := by simp [putB, List.range_succ]
    rw [e, numB_snoc, ih, putB_length, UInt8.toNat_ofNat', ← pow256 m, Nat.pow_succ 256 m, Nat.mod_mul (x := n) (a := 256 ^ m) (b := 256), Nat.mul_comm]
theorem putB_numB : ∀ (l : List UInt8), putB (numB l) l.length = l := by
  intro l
  apply List.ext_getElem
  · simp [putB_length]
  · intro i h1 h2
    rw [putB_get]
    have key : ∀ (l : List UInt8) (i : Nat) (h : i < l.length), numB l / 256 ^ i % 256 = l[i].toNat := by
      intro l
      induction l with
      | nil => intro i h; simp at h
      | cons x l ih =>
        intro i h
        have hx := x.toNat_lt
        cases i with
        | zero => simp only [numB, Nat.pow_zero, Nat.div_one, List.getElem_cons_zero]; omega
        | succ i =>
          have := ih i (by simpa using h)
          simp only [numB, List.getElem_cons_succ]
          rw [Nat.pow_succ, Nat.mul_comm (256 ^ i) 256, ← Nat.div_div_eq_div_mul, show (x.toNat + 256 * numB l) / 256 = numB l by omega]
          exact this
    have := key l i h2
    rw [pow256] at this
    apply UInt8.toNat_inj.1
    rw [UInt8.toNat_ofNat', ← this]
end Go.W

/- octet: numbers and texts as bytes; the reader. -/
namespace Go.Proofs.YtdalmiacjicgpaaGreatDoor
open Go.W

def putO (n : Nat) (size : Int) : List UInt8 := if 1 ≤ size ∧ size ≤ 8 then putB n size.toNat else []

theorem put_spec (n : Nat) (size : Int) (_hn : n < 18446744073709551616) : Fun Tryz.prog 106 [.int .u64 (n : Int), .int .i64 size] [] []
    fun v H => ∃ a cap, v = .slice a (putO n size).length cap ∧ H = [sl 1 a (putO n size).length cap (bsV (putO n size))] := by
  refine xenter (p := pg) Tryz.call106 Tryz.func106 fun C => ?_
  repeat (first | refine xst ?_ | refine xar ?_ | refine xop ?_ | refine xlen ?_ | refine xld rfl ?_ | refine xsto rfl ?_ | refine xno ?_ | refine xt ?_ | refine xf ?_)
  refine xbc 9 (fun h1 => ?_) (fun h1 => ?_)
  · repeat (first | refine xst ?_ | refine xar ?_ | refine xop ?_ | refine xlen ?_ | refine xld rfl ?_ | refine xsto rfl ?_ | refine xno ?_ | refine xt ?_ | refine xf ?_)
    refine G.sln 1 ?_
    refine xretp [0] ?_
    rw [show putO n size = [] by unfold putO; rw [if_neg (by omega)]]
    exact ⟨none, 0, rfl, rfl⟩
  · repeat (first | refine xst ?_ | refine xar ?_ | refine xop ?_ | refine xlen ?_ | refine xld rfl ?_ | refine xsto rfl ?_ | refine xno ?_ | refine xt ?_ | refine xf ?_)
    refine xd (fun h2 => ?_) (fun h2 => ?_)
    · repeat (first | refine xst ?_ | refine xar ?_ | refine xop ?_ | refine xlen ?_ | refine xld rfl ?_ | refine xsto rfl ?_ | refine xno ?_ | refine xt ?_ | refine xf ?_)
      refine G.sln 1 ?_
      refine xretp [0] ?_
      rw [show putO n size = [] by unfold putO; rw [if_neg (by omega)]]
      exact ⟨none, 0, rfl, rfl⟩
    · obtain ⟨m, rfl⟩ : ∃ m : Nat, size = m := ⟨size.toNat, by omega⟩
      repeat (first | refine xst ?_ | refine xar ?_ | refine xop ?_ | refine xlen ?_ | refine xld rfl ?_ | refine xsto rfl ?_ | refine xno ?_ | refine xt ?_ | refine xf ?_)
      refine xmake m m rfl rfl rfl (Nat.le_refl _) (by omega) (by omega) fun b => ?_
      repeat (first | refine xst ?_ | refine xar ?_ | refine xop ?_ | refine xlen ?_ | refine xld rfl ?_ | refine xsto rfl ?_ | refine xno ?_ | refine xt ?_ | refine xf ?_)
      refine G.loop (σ := Nat) (fun k => [(0, .int .u64 (n : Int)), (5, .slice (some ⟨b, 0, none⟩) m m), (16, .int .i64 (m : Int)), (17, .int .i64 (k : Int))])
        (fun k => [sl 1 (some ⟨b, 0, none⟩) m m ((bsV (putB n m)).take k ++ zeros (m - k) [.int .u8 0])]) (fun k => k ≤ m) (fun k => m - k) 0 (Nat.zero_le _) ⟨rfl, rfl, rfl, rfl, trivial⟩ (Ent.refl _) ?_
      intro k hk
      repeat (first | refine xst ?_ | refine xar ?_ | refine xop ?_ | refine xlen ?_ | refine xld rfl ?_ | refine xsto rfl ?_ | refine xno ?_ | refine xt ?_ | refine xf ?_)
      refine xd (fun h3 => ?_) (fun h3 => ?_)
      · have hk' : k < m := by omega
        repeat (first | refine xst ?_ | refine xar ?_ | refine xop ?_ | refine xlen ?_ | refine xld rfl ?_ | refine xsto rfl ?_ | refine xno ?_ | refine xt ?_ | refine xf ?_)
        refine xix ?_
        refine xE 26 (bV (UInt8.ofNat (n / 2 ^ (8 * k)))) rfl (congrArg (Value.int .u8) (putB_byte n k (by omega))) ?_
        have hb8 : (bsV (putB n m)).length = m := by simp [bsV, putB_length]
        refine xstl rfl k ((bsV (putB n m)).take (k + 1) ++ zeros (m - (k + 1)) [.int .u8 0]) (fill_row hb8 hk' ?_) ?_ ?_
        · rw [bsV_get (by rw [putB_length]; exact hk'), putB_get]
        · rw [fill_len hb8 hk]; exact hk'
        repeat (first | refine xst ?_ | refine xar ?_ | refine xop ?_ | refine xlen ?_ | refine xld rfl ?_ | refine xsto rfl ?_ | refine xno ?_ | refine xt ?_ | refine xf ?_)
        exact G.fin (k + 1) ⟨by omega, by omega⟩ ⟨rfl, rfl, rfl, rfl, trivial⟩ ent_pick
      · obtain rfl : k = m := by omega
        repeat (first | refine xst ?_ | refine xar ?_ | refine xop ?_ | refine xlen ?_ | refine xld rfl ?_ | refine xsto rfl ?_ | refine xno ?_ | refine xt ?_ | refine xf ?_)
        refine xretp [0] ?_
        have e1 : putO n k = putB n k := by unfold putO; rw [if_pos (by omega)]; simp
        have e2 : (bsV (putB n k)).take k ++ zeros (k - k) [.int .u8 0] = bsV (putB n k) := by
          rw [List.take_of_length_le (by simp [bsV, putB_length]), Nat.sub_self]; simp [zeros]
        rw [e1, e2, putB_length]
        exact ⟨some ⟨b, 0, none⟩, k, rfl, rfl⟩

theorem number_spec (a : Option Addr) (n cap : Nat) (bs : List UInt8) (hn : n = bs.length) (h8 : bs.length ≤ 8) : Fun Tryz.prog 137 [.slice a n cap] [slR 1 a n cap (bsV bs)] [] fun v H => v = .int .u64 (numB bs : Int) ∧ H = [] := by
  subst hn
  refine xenter (p := pg) Tryz.call137 Tryz.func137 fun C => ?_
  have hr := RP.slR (RP.of C (X := slR 1 a bs.length cap (bsV bs)) (by simp))
  repeat (first | refine xst ?_ | refine xar ?_ | refine xop ?_ | refine xlen ?_ | refine xld rfl ?_ | refine xsto rfl ?_ | refine xno ?_ | refine xt ?_ | refine xf ?_)
  refine G.loop (σ := Nat) (fun k => [(3, .int .u64 (numB (bs.take k) : Int)), (6, .slice a bs.length cap), (7, .int .i64 (bs.length : Int)), (8, .int .i64 (k : Int))])
    (fun _ => []) (fun k => k ≤ bs.length) (fun k => bs.length - k) 0 (Nat.zero_le _) ⟨rfl, rfl, rfl, rfl, trivial⟩ (Ent.refl _) ?_
  intro k hk
  repeat (first | refine xst ?_ | refine xar ?_ | refine xop ?_ | refine xlen ?_ | refine xld rfl ?_ | refine xsto rfl ?_ | refine xno ?_ | refine xt ?_ | refine xf ?_)
  refine xd (fun h3 => ?_) (fun h3 => ?_)
  · have hk' : k < bs.length := by omega
    obtain ⟨b, off, rfl, hsb⟩ := hr.some (by omega)
    repeat (first | refine xst ?_ | refine xar ?_ | refine xop ?_ | refine xlen ?_ | refine xld rfl ?_ | refine xsto rfl ?_ | refine xno ?_ | refine xt ?_ | refine xf ?_)
    refine xix ?_
    refine xldl rfl k (bsV_get hk') ?_
    repeat (first | refine xst ?_ | refine xar ?_ | refine xop ?_ | refine xlen ?_ | refine xld rfl ?_ | refine xsto rfl ?_ | refine xno ?_ | refine xt ?_ | refine xf ?_)
    have hlen : (bs.take k).length = k := by simp; omega
    have hst := numB_step (bs.take k) bs[k] (by omega)
    rw [hlen] at hst
    refine xE 3 (.int .u64 (numB (bs.take (k + 1)) : Int)) rfl (by rw [List.take_succ_eq_append_getElem hk']; exact congrArg (Value.int .u64) hst) ?_
    exact G.fin (k + 1) ⟨by omega, by omega⟩ ⟨rfl, rfl, rfl, rfl, trivial⟩ ent_pick
  · obtain rfl : k = bs.length := by omega
    repeat (first | refine xst ?_ | refine xar ?_ | refine xop ?_ | refine xlen ?_ | refine xld rfl ?_ | refine xsto rfl ?_ | refine xno ?_ | refine xt ?_ | refine xf ?_)
    refine xretp [] ?_
    rw [List.take_length]
    exact ⟨rfl, rfl⟩

theorem fail_spec (q : Nat) (s : Value) (at_ code c : Int) : Fun Tryz.prog 147 [.pointer (some ⟨q, 0, none⟩), .int .i64 c] [] [pts q [s, .int .i64 at_, .int .i64 code]]
    fun v H => v = .tuple #[] ∧ H = [pts q [s, .int .i64 at_, .int .i64 (if code = 0 then c else code)]] := by
  refine xenter (p := pg) Tryz.call147 Tryz.func147 fun C => ?_
  repeat (first | refine xst ?_ | refine xar ?_ | refine xop ?_ | refine xlen ?_ | refine xld rfl ?_ | refine xsto rfl ?_ | refine xno ?_ | refine xt ?_ | refine xf ?_)
  refine xd (fun h => ?_) (fun h => ?_)
  · repeat (first | refine xst ?_ | refine xar ?_ | refine xop ?_ | refine xlen ?_ | refine xld rfl ?_ | refine xsto rfl ?_ | refine xno ?_ | refine xt ?_ | refine xf ?_)
    refine xdonep [0] ?_
    simp [h, resV]
  · repeat (first | refine xst ?_ | refine xar ?_ | refine xop ?_ | refine xlen ?_ | refine xld rfl ?_ | refine xsto rfl ?_ | refine xno ?_ | refine xt ?_ | refine xf ?_)
    refine xdonep [0] ?_
    simp [h, resV]

theorem left_spec (q : Nat) (a : Option Addr) (n cap at_ : Nat) (code : Value) (hat : at_ ≤ n) (hn : n ≤ 140737488355328) : Fun Tryz.prog 121 [.pointer (some ⟨q, 0, none⟩)] [rdb q [.slice a n cap, .int .i64 (at_ : Int), code]] []
    fun v H => v = .int .i64 ((n - at_ : Nat) : Int) ∧ H = [] := by
  refine xenter (p := pg) Tryz.call121 Tryz.func121 fun C => ?_
  haveI := RB.of C (b := q) (l := [.slice a n cap, .int .i64 (at_ : Int), code]) (by simp)
  repeat (first | refine xst ?_ | refine xar ?_ | refine xop ?_ | refine xlen ?_ | refine xld rfl ?_ | refine xsto rfl ?_ | refine xno ?_ | refine xt ?_ | refine xf ?_)
  refine xdraw ?_
  refine xdop 0 ?_
  refine xdop 1 ?_
  refine xdop 2 ?_
  refine xdld 3 rfl rfl ?_
  refine xdlen 4 ?_
  refine xdop 5 ?_
  refine xdop 6 ?_
  refine xdop 7 ?_
  refine xdld 8 rfl rfl ?_
  (first | refine xdar 9 ?_ | refine xdop 9 ?_)
  refine xdop 10 ?_
  refine xdend ?_
  repeat (first | refine xst ?_ | refine xar ?_ | refine xop ?_ | refine xlen ?_ | refine xld rfl ?_ | refine xsto rfl ?_ | refine xno ?_ | refine xt ?_ | refine xf ?_)
  refine xretp [] ?_
  simp [resV]; omega

/-- What the next n bytes of a reader are, where it stands then, and its failure. -/
def rdTake (bs : List UInt8) (at_ : Nat) (code : Int) (n : Nat) : List UInt8 × Nat × Int :=
  if code = 0 ∧ at_ + n ≤ bs.length then ((bs.drop at_).take n, at_ + n, 0) else ([], at_, if code = 0 then 2 else code)

theorem take_spec (q : Nat) (a : Option Addr) (len cap at_ : Nat) (code : Int) (n : Nat) (hat : at_ ≤ len) (hlen : len ≤ 140737488355328) (hcap : len ≤ cap) :
    Fun Tryz.prog 148 [.pointer (some ⟨q, 0, none⟩), .int .i64 (n : Int)] [] [pts q [.slice a len cap, .int .i64 (at_ : Int), .int .i64 code]]
    fun v H => (code = 0 ∧ at_ + n ≤ len ∧ v = .tuple #[.slice (subA a at_ 1 cap) (at_ + n - at_) (cap - at_), .bool true] ∧ H = [pts q [.slice a len cap, .int .i64 ((at_ + n : Nat) : Int), .int .i64 code]]) ∨
      (¬ (code = 0 ∧ at_ + n ≤ len) ∧ v = .tuple #[.slice none 0 0, .bool false] ∧ H = [pts q [.slice a len cap, .int .i64 (at_ : Int), .int .i64 (if code = 0 then 2 else code)]]) := by
  refine xenter (p := pg) Tryz.call148 Tryz.func148 fun C => ?_
  repeat (first | refine xst ?_ | refine xar ?_ | refine xop ?_ | refine xlen ?_ | refine xld rfl ?_ | refine xsto rfl ?_ | refine xno ?_ | refine xt ?_ | refine xf ?_)
  refine xd (fun h => ?_) (fun h => ?_)
  · repeat (first | refine xst ?_ | refine xar ?_ | refine xop ?_ | refine xlen ?_ | refine xld rfl ?_ | refine xsto rfl ?_ | refine xno ?_ | refine xt ?_ | refine xf ?_)
    refine xretp [0] ?_
    refine .inr ⟨fun h' => h h'.1, rfl, ?_⟩
    rw [if_neg h]
  · have h : code = 0 := by omega
    subst h
    repeat (first | refine xst ?_ | refine xar ?_ | refine xop ?_ | refine xlen ?_ | refine xld rfl ?_ | refine xsto rfl ?_ | refine xno ?_ | refine xt ?_ | refine xf ?_)
    refine xcall (left_spec q a len cap at_ (.int .i64 0) hat hlen) ?_
    rintro v H ⟨rfl, rfl⟩
    refine G.app ?_
    repeat (first | refine xst ?_ | refine xar ?_ | refine xop ?_ | refine xlen ?_ | refine xld rfl ?_ | refine xsto rfl ?_ | refine xno ?_ | refine xt ?_ | refine xf ?_)
    refine xd (fun h2 => ?_) (fun h2 => ?_)
    · repeat (first | refine xst ?_ | refine xar ?_ | refine xop ?_ | refine xlen ?_ | refine xld rfl ?_ | refine xsto rfl ?_ | refine xno ?_ | refine xt ?_ | refine xf ?_)
      refine xcall (fail_spec q (.slice a len cap) at_ 0 2) ?_
      rintro v H ⟨rfl, rfl⟩
      refine G.app ?_
      repeat (first | refine xst ?_ | refine xar ?_ | refine xop ?_ | refine xlen ?_ | refine xld rfl ?_ | refine xsto rfl ?_ | refine xno ?_ | refine xt ?_ | refine xf ?_)
      refine xretp [0] ?_
      exact .inr ⟨fun h' => by omega, rfl, rfl⟩
    · have hle : at_ + n ≤ len := by omega
      repeat (first | refine xst ?_ | refine xar ?_ | refine xop ?_ | refine xlen ?_ | refine xld rfl ?_ | refine xsto rfl ?_ | refine xno ?_ | refine xt ?_ | refine xf ?_)
      refine xdraw ?_
      refine xdop 0 ?_
      refine xdop 1 ?_
      refine xdop 2 ?_
      refine xdld 3 rfl rfl ?_
      refine xdop 4 ?_
      refine xdop 5 ?_
      refine xdop 6 ?_
      refine xdld 7 rfl rfl ?_
      refine xdop 8 ?_
      refine xdop 9 ?_
      refine xdop 10 ?_
      refine xdld 11 rfl rfl ?_
      refine xdop 12 ?_
      (first | refine xdar 13 ?_ | refine xdop 13 ?_)
      refine xdslice 14 at_ (at_ + n) rfl rfl rfl rfl (by omega) (by omega) ?_
      refine xdop 15 ?_
      refine xdend ?_
      repeat (first | refine xst ?_ | refine xar ?_ | refine xop ?_ | refine xlen ?_ | refine xld rfl ?_ | refine xsto rfl ?_ | refine xno ?_ | refine xt ?_ | refine xf ?_)
      refine xretp [0] ?_
      exact .inl ⟨rfl, hle, rfl, rfl⟩
end Go.Proofs.YtdalmiacjicgpaaGreatDoor

/- octet: the reader. -/
namespace Go.Proofs.YtdalmiacjicgpaaGreatDoor
open Go.W

/-- A reader: its bytes, where it stands, its failure. -/
def rdV (a : Option Addr) (len cap : Nat) (r : Nat × Int) : List Value := [.slice a len cap, .int .i64 (r.1 : Int), .int .i64 r.2]
def rdOk (bs : List UInt8) (at_ : Nat) (code : Int) (n : Nat) : Bool := decide (code = 0 ∧ at_ + n ≤ bs.length)
def rdX (bs : List UInt8) (at_ : Nat) (code : Int) (n : Nat) : List UInt8 := if code = 0 ∧ at_ + n ≤ bs.length then (bs.drop at_).take n else []
def rdR (bs : List UInt8) (at_ : Nat) (code : Int) (n : Nat) : Nat × Int := if code = 0 ∧ at_ + n ≤ bs.length then (at_ + n, 0) else (at_, if code = 0 then 2 else code)
theorem rdR_le {bs : List UInt8} {at_ : Nat} {code : Int} {n : Nat} (h : at_ ≤ bs.length) : (rdR bs at_ code n).1 ≤ bs.length := by
  unfold rdR; split <;> simp <;> omega
theorem rdX_len {bs : List UInt8} {at_ : Nat} {code : Int} {n : Nat} : (rdX bs at_ code n).length ≤ n := by
  unfold rdX; split <;> simp <;> omega

theorem num_spec (q : Nat) (a : Option Addr) (cap at_ : Nat) (bs : List UInt8) (code : Int) (n : Nat) (h1 : 1 ≤ n) (h8 : n ≤ 8) (hat : at_ ≤ bs.length) (hlen : bs.length ≤ 140737488355328) (hcap : bs.length ≤ cap) :
    Fun Tryz.prog 124 [.pointer (some ⟨q, 0, none⟩), .int .i64 (n : Int)] [slR 1 a bs.length cap (bsV bs)] [pts q [.slice a bs.length cap, .int .i64 (at_ : Int), .int .i64 code]]
    fun v H => v = .int .u64 (numB (rdX bs at_ code n) : Int) ∧ H = [pts q (rdV a bs.length cap (rdR bs at_ code n))] := by
  refine xenter (p := pg) Tryz.call124 Tryz.func124 fun C => ?_
  have hr := RP.slR (RP.of C (X := slR 1 a bs.length cap (bsV bs)) (by simp))
  repeat (first | refine xst ?_ | refine xar ?_ | refine xop ?_ | refine xlen ?_ | refine xld rfl ?_ | refine xsto rfl ?_ | refine xno ?_ | refine xt ?_ | refine xf ?_)
  refine xbc 9 (fun h => ?_) (fun h => ?_)
  · omega
  repeat (first | refine xst ?_ | refine xar ?_ | refine xop ?_ | refine xlen ?_ | refine xld rfl ?_ | refine xsto rfl ?_ | refine xno ?_ | refine xt ?_ | refine xf ?_)
  refine xd (fun h => ?_) (fun h => ?_)
  · omega
  repeat (first | refine xst ?_ | refine xar ?_ | refine xop ?_ | refine xlen ?_ | refine xld rfl ?_ | refine xsto rfl ?_ | refine xno ?_ | refine xt ?_ | refine xf ?_)
  refine xcall (take_spec q a bs.length cap at_ code n hat hlen hcap) ?_
  rintro v H (⟨rfl, hle, rfl, rfl⟩ | ⟨hno, rfl, rfl⟩)
  · refine G.app ?_
    repeat (first | refine xst ?_ | refine xar ?_ | refine xop ?_ | refine xlen ?_ | refine xld rfl ?_ | refine xsto rfl ?_ | refine xno ?_ | refine xt ?_ | refine xf ?_)
    haveI := hr.subB (k := at_) (m := at_ + n) (by omega) hle
    refine xcall (number_spec (subA a at_ 1 cap) (at_ + n - at_) (cap - at_) ((bs.drop at_).take (at_ + n - at_)) (by simp; omega) (by simp; omega)) ?_
    rintro v H ⟨rfl, rfl⟩
    refine G.app ?_
    repeat (first | refine xst ?_ | refine xar ?_ | refine xop ?_ | refine xlen ?_ | refine xld rfl ?_ | refine xsto rfl ?_ | refine xno ?_ | refine xt ?_ | refine xf ?_)
    refine xretp [0] ?_
    rw [rdX, rdR, if_pos ⟨rfl, hle⟩, if_pos ⟨rfl, hle⟩, Nat.add_sub_cancel_left]
    exact ⟨rfl, rfl⟩
  · refine G.app ?_
    repeat (first | refine xst ?_ | refine xar ?_ | refine xop ?_ | refine xlen ?_ | refine xld rfl ?_ | refine xsto rfl ?_ | refine xno ?_ | refine xt ?_ | refine xf ?_)
    refine xcall (number_spec none 0 0 [] rfl (by simp)) ?_
    rintro v H ⟨rfl, rfl⟩
    refine G.app ?_
    repeat (first | refine xst ?_ | refine xar ?_ | refine xop ?_ | refine xlen ?_ | refine xld rfl ?_ | refine xsto rfl ?_ | refine xno ?_ | refine xt ?_ | refine xf ?_)
    refine xretp [0] ?_
    rw [rdX, rdR, if_neg hno, if_neg hno]
    exact ⟨rfl, rfl⟩

theorem bytes_spec (q : Nat) (a : Option Addr) (cap at_ : Nat) (bs : List UInt8) (code : Int) (n : Nat) (hn : n ≤ 140737488355328) (hat : at_ ≤ bs.length) (hlen : bs.length ≤ 140737488355328) (hcap : bs.length ≤ cap) :
    Fun Tryz.prog 107 [.pointer (some ⟨q, 0, none⟩), .int .i64 (n : Int)] [slR 1 a bs.length cap (bsV bs)] [pts q [.slice a bs.length cap, .int .i64 (at_ : Int), .int .i64 code]]
    fun v H => ∃ a' cap', v = .slice a' (rdX bs at_ code n).length cap' ∧ H = [sl 1 a' (rdX bs at_ code n).length cap' (bsV (rdX bs at_ code n)), pts q (rdV a bs.length cap (rdR bs at_ code n))] := by
  refine xenter (p := pg) Tryz.call107 Tryz.func107 fun C => ?_
  have hr := RP.slR (RP.of C (X := slR 1 a bs.length cap (bsV bs)) (by simp))
  repeat (first | refine xst ?_ | refine xar ?_ | refine xop ?_ | refine xlen ?_ | refine xld rfl ?_ | refine xsto rfl ?_ | refine xno ?_ | refine xt ?_ | refine xf ?_)
  refine xcall (take_spec q a bs.length cap at_ code n hat hlen hcap) ?_
  rintro v H (⟨rfl, hle, rfl, rfl⟩ | ⟨hno, rfl, rfl⟩)
  · refine G.app ?_
    repeat (first | refine xst ?_ | refine xar ?_ | refine xop ?_ | refine xlen ?_ | refine xld rfl ?_ | refine xsto rfl ?_ | refine xno ?_ | refine xt ?_ | refine xf ?_)
    haveI := hr.subB (k := at_) (m := at_ + n) (by omega) hle
    refine G.sln 1 ?_
    refine xapp [] rfl (SrcOk.rs this (bsV_one _)) (by omega) fun a' cap' => ?_
    repeat (first | refine xst ?_ | refine xar ?_ | refine xop ?_ | refine xlen ?_ | refine xld rfl ?_ | refine xsto rfl ?_ | refine xno ?_ | refine xt ?_ | refine xf ?_)
    refine xretp [0,0] ?_
    rw [rdX, rdR, if_pos ⟨rfl, hle⟩, if_pos ⟨rfl, hle⟩]
    have e : ((bs.drop at_).take n).length = n := by simp; omega
    rw [e]
    refine ⟨a', cap', ?_, ?_⟩
    · simp [resV]
    · simp [rdV]
  · refine G.app ?_
    repeat (first | refine xst ?_ | refine xar ?_ | refine xop ?_ | refine xlen ?_ | refine xld rfl ?_ | refine xsto rfl ?_ | refine xno ?_ | refine xt ?_ | refine xf ?_)
    refine G.sln 1 ?_
    refine xretp [0, 0] ?_
    rw [rdX, rdR, if_neg hno, if_neg hno]
    exact ⟨none, 0, rfl, rfl⟩

theorem must_spec (q : Nat) (s : Value) (at_ code c : Int) (ok : Bool) (hc : c ≠ 0) : Fun Tryz.prog 108 [.pointer (some ⟨q, 0, none⟩), .bool ok, .int .i64 c] [] [pts q [s, .int .i64 at_, .int .i64 code]]
    fun _ H => H = [pts q [s, .int .i64 at_, .int .i64 (if code = 0 ∧ ok = false then c else code)]] := by
  refine xenter (p := pg) Tryz.call108 Tryz.func108 fun C => ?_
  repeat (first | refine xst ?_ | refine xar ?_ | refine xop ?_ | refine xlen ?_ | refine xld rfl ?_ | refine xsto rfl ?_ | refine xno ?_ | refine xt ?_ | refine xf ?_)
  cases ok with
  | true =>
    repeat (first | refine xst ?_ | refine xar ?_ | refine xop ?_ | refine xlen ?_ | refine xld rfl ?_ | refine xsto rfl ?_ | refine xno ?_ | refine xt ?_ | refine xf ?_)
    refine xretp [0] ?_
    simp
  | false =>
    repeat (first | refine xst ?_ | refine xar ?_ | refine xop ?_ | refine xlen ?_ | refine xld rfl ?_ | refine xsto rfl ?_ | refine xno ?_ | refine xt ?_ | refine xf ?_)
    refine xd (fun h => ?_) (fun h => ?_)
    · omega
    repeat (first | refine xst ?_ | refine xar ?_ | refine xop ?_ | refine xlen ?_ | refine xld rfl ?_ | refine xsto rfl ?_ | refine xno ?_ | refine xt ?_ | refine xf ?_)
    refine xcall (fail_spec q s at_ code c) ?_
    rintro v H ⟨rfl, rfl⟩
    refine G.app ?_
    repeat (first | refine xst ?_ | refine xar ?_ | refine xop ?_ | refine xlen ?_ | refine xld rfl ?_ | refine xsto rfl ?_ | refine xno ?_ | refine xt ?_ | refine xf ?_)
    refine xdonep [0] ?_
    simp

def endF (len : Nat) (r : Nat × Int) : List (Int × Int) := if r.2 = 0 then (if r.1 < len then [(7, r.1)] else []) else [(r.2, r.1)]
theorem end_spec (q : Nat) (a : Option Addr) (len cap at_ : Nat) (code : Int) (hat : at_ ≤ len) (hlen : len ≤ 140737488355328) : Fun Tryz.prog 69 [.pointer (some ⟨q, 0, none⟩)] [rdb q [.slice a len cap, .int .i64 (at_ : Int), .int .i64 code]] []
    fun v H => H = [chain (endF len (at_, code)) v] := by
  refine xenter (p := pg) Tryz.call69 Tryz.func69 fun C => ?_
  haveI := RB.of C (b := q) (l := [.slice a len cap, .int .i64 (at_ : Int), .int .i64 code]) (by simp)
  repeat (first | refine xst ?_ | refine xar ?_ | refine xop ?_ | refine xlen ?_ | refine xld rfl ?_ | refine xsto rfl ?_ | refine xno ?_ | refine xt ?_ | refine xf ?_)
  refine xd (fun h => ?_) (fun h => ?_)
  · repeat (first | refine xst ?_ | refine xar ?_ | refine xop ?_ | refine xlen ?_ | refine xld rfl ?_ | refine xsto rfl ?_ | refine xno ?_ | refine xt ?_ | refine xf ?_)
    refine xdraw ?_
    refine xdop 0 ?_
    refine xdop 1 ?_
    refine xdop 2 ?_
    refine xdld 3 rfl rfl ?_
    refine xdop 4 ?_
    refine xdop 5 ?_
    refine xdop 6 ?_
    refine xdld 7 rfl rfl ?_
    refine xdact 8 ?_
    refine xcall (new_spec code at_) ?_
    rintro v H rfl
    refine G.app ?_
    refine xst ?_
    refine xdop 9 ?_
    refine xdend ?_
    repeat (first | refine xst ?_ | refine xar ?_ | refine xop ?_ | refine xlen ?_ | refine xld rfl ?_ | refine xsto rfl ?_ | refine xno ?_ | refine xt ?_ | refine xf ?_)
    refine xretp [0] ?_
    have e : endF len (at_, code) = newF code at_ := by unfold endF newF; simp [h]
    rw [e]; rfl
  · have h : code = 0 := by omega
    subst h
    repeat (first | refine xst ?_ | refine xar ?_ | refine xop ?_ | refine xlen ?_ | refine xld rfl ?_ | refine xsto rfl ?_ | refine xno ?_ | refine xt ?_ | refine xf ?_)
    refine xcall (left_spec q a len cap at_ (.int .i64 0) hat hlen) ?_
    rintro v H ⟨rfl, rfl⟩
    refine G.app ?_
    repeat (first | refine xst ?_ | refine xar ?_ | refine xop ?_ | refine xlen ?_ | refine xld rfl ?_ | refine xsto rfl ?_ | refine xno ?_ | refine xt ?_ | refine xf ?_)
    refine xd (fun h2 => ?_) (fun h2 => ?_)
    · repeat (first | refine xst ?_ | refine xar ?_ | refine xop ?_ | refine xlen ?_ | refine xld rfl ?_ | refine xsto rfl ?_ | refine xno ?_ | refine xt ?_ | refine xf ?_)
      refine xcall (new_spec 7 at_) ?_
      rintro v H rfl
      refine G.app ?_
      repeat (first | refine xst ?_ | refine xar ?_ | refine xop ?_ | refine xlen ?_ | refine xld rfl ?_ | refine xsto rfl ?_ | refine xno ?_ | refine xt ?_ | refine xf ?_)
      refine xretp [0] ?_
      have e : endF len (at_, 0) = newF 7 at_ := by unfold endF newF; simp; omega
      rw [e]; rfl
    · repeat (first | refine xst ?_ | refine xar ?_ | refine xop ?_ | refine xlen ?_ | refine xld rfl ?_ | refine xsto rfl ?_ | refine xno ?_ | refine xt ?_ | refine xf ?_)
      refine G.fold (chain [] .nilIface) [] (fun w F _ => chain_nil w F) ?_
      refine xretp [0] ?_
      have e : endF len (at_, 0) = [] := by unfold endF; simp; omega
      rw [e]; rfl

theorem read_spec (a : Option Addr) (n cap : Nat) (bs : List UInt8) (hn : n = bs.length) (hlen : n ≤ 140737488355328) : Fun Tryz.prog 67 [.slice a n cap] [slR 1 a n cap (bsV bs)] []
    fun v H => ∃ q a' cap', v = .pointer (some ⟨q, 0, none⟩) ∧ n ≤ cap' ∧ H = [pts q [.slice a' n cap', .int .i64 0, .int .i64 0], sl 1 a' n cap' (bsV bs)] := by
  subst hn
  refine xenter (p := pg) Tryz.call67 Tryz.func67 fun C => ?_
  haveI := RP.slR (RP.of C (X := slR 1 a bs.length cap (bsV bs)) (by simp))
  repeat (first | refine xst ?_ | refine xar ?_ | refine xop ?_ | refine xlen ?_ | refine xld rfl ?_ | refine xsto rfl ?_ | refine xno ?_ | refine xt ?_ | refine xf ?_)
  refine G.sln 1 ?_
  refine xapp [] rfl (SrcOk.rs this (bsV_one _)) (by omega) fun a' cap' => ?_
  refine xslf 0 rfl fun _ hc _ => ?_
  repeat (first | refine xst ?_ | refine xar ?_ | refine xop ?_ | refine xlen ?_ | refine xld rfl ?_ | refine xsto rfl ?_ | refine xno ?_ | refine xt ?_ | refine xf ?_)
  refine xnew fun q => ?_
  repeat (first | refine xst ?_ | refine xar ?_ | refine xop ?_ | refine xlen ?_ | refine xld rfl ?_ | refine xsto rfl ?_ | refine xno ?_ | refine xt ?_ | refine xf ?_)
  refine xretp [0, 0] ?_
  refine ⟨q, a', cap', rfl, by omega, ?_⟩
  simp
end Go.Proofs.YtdalmiacjicgpaaGreatDoor

/- crc. -/
namespace Go.Proofs.YtdalmiacjicgpaaGreatDoor
open Go.W

def nibL : List UInt32 := [0, 274646895, 549293790, 820201905, 1098587580, 1361435347, 1640403810, 1905808397, 2197175160, 2460548119, 2722870694, 2987750089, 3280807620, 3553878443, 3811616794, 4084100981]
def gNib : HProp := rdb 4 (wsV nibL)
theorem nib_len : nibL.length = 16 := rfl
def nib (r : UInt32) : UInt32 := nibL.getD (r &&& 15).toNat 0
def half (r : UInt32) : UInt32 := wShr r 4 ^^^ nib r
def crcStep (r : UInt32) (x : UInt8) : UInt32 := half (half (r ^^^ UInt32.ofNat x.toNat))
def crcF (bs : List UInt8) : UInt32 := ~~~ (bs.foldl crcStep (~~~ 0))
theorem and15 (r : UInt32) : (r &&& 15).toNat < 16 := by
  rw [UInt32.toNat_and]
  exact Nat.lt_of_le_of_lt Nat.and_le_right (by decide)
theorem nib_get (r : UInt32) : (wsV nibL)[(r &&& 15).toNat]? = some (wV (nib r)) := by
  have h := and15 r
  rw [wsV_get (by rw [nib_len]; exact h)]
  unfold nib
  congr 2
  rw [List.getD_eq_getElem?_getD, List.getElem?_eq_getElem (by rw [nib_len]; exact h)]; rfl

theorem on_spec (a : Option Addr) (n cap : Nat) (bs : List UInt8) (hn : n = bs.length) (hl : n ≤ 1000000) : Fun Tryz.prog 138 [wV 0, .slice a n cap] [gNib, slR 1 a n cap (bsV bs)] [] fun v H => v = wV (crcF bs) ∧ H = [] := by
  subst hn
  refine xenter (p := pg) Tryz.call138 Tryz.func138 fun C => ?_
  haveI : RB C 4 (wsV nibL) := RP.rdb (RP.of C (X := gNib) (by simp))
  have hr := RP.slR (RP.of C (X := slR 1 a bs.length cap (bsV bs)) (by simp))
  repeat (refine xnot 9 ?_; first | refine xst ?_ | refine xar ?_ | refine xop ?_ | refine xlen ?_ | refine xld rfl ?_ | refine xsto rfl ?_ | refine xno ?_ | refine xt ?_ | refine xf ?_ | refine xnu ?_)
  refine xE 9 (wV (~~~ 0)) rfl (wE (w_not 0)) ?_
  repeat (first | refine xst ?_ | refine xar ?_ | refine xop ?_ | refine xlen ?_ | refine xld rfl ?_ | refine xsto rfl ?_ | refine xno ?_ | refine xt ?_ | refine xf ?_ | refine xnu ?_)
  refine G.loop (σ := Nat) (fun i => [(5, wV ((bs.take i).foldl crcStep (~~~ 0))), (10, .slice a bs.length cap), (11, .int .i64 (bs.length : Int)), (12, .int .i64 (i : Int))]) (fun i => []) (fun i => i ≤ bs.length) (fun i => bs.length - i) 0 (Nat.zero_le _) (by repeat (first | exact trivial | refine ⟨rfl, ?_⟩)) (by first | exact Ent.refl _ | exact ent_pick) ?_
  rintro i hI
  have hI : i ≤ bs.length := hI
  show G C _ [(5, wV ((bs.take i).foldl crcStep (~~~ 0))), (10, .slice a bs.length cap), (11, .int .i64 (bs.length : Int)), (12, .int .i64 (i : Int))] []
  repeat (first | refine xst ?_ | refine xar ?_ | refine xop ?_ | refine xlen ?_ | refine xld rfl ?_ | refine xsto rfl ?_ | refine xno ?_ | refine xt ?_ | refine xf ?_ | refine xnu ?_)
  refine xd (q := (i : Int) < (bs.length : Int)) (fun h => ?_) (fun h => ?_)
  · have h : i < bs.length := by omega
    obtain ⟨bb, bo, rfl, hsb⟩ := hr.some (by omega)
    have hst : (bs.take (i + 1)).foldl crcStep (~~~ 0) = crcStep ((bs.take i).foldl crcStep (~~~ 0)) bs[i] := by rw [List.take_succ_eq_append_getElem h, List.foldl_append]; rfl
    have hg := bsV_get h
    generalize bs[i] = x at hst hg
    generalize (bs.take i).foldl crcStep (~~~ 0) = r at hst
    repeat (first | refine xst ?_ | refine xar ?_ | refine xop ?_ | refine xlen ?_ | refine xld rfl ?_ | refine xsto rfl ?_ | refine xno ?_ | refine xt ?_ | refine xf ?_ | refine xnu ?_)
    refine xix ?_ (hk := h)
    refine xldl rfl i hg ?_
    repeat (refine xnot 18 ?_; first | refine xst ?_ | refine xar ?_ | refine xop ?_ | refine xlen ?_ | refine xld rfl ?_ | refine xsto rfl ?_ | refine xno ?_ | refine xt ?_ | refine xf ?_ | refine xnu ?_)
    refine xE 18 (wV (UInt32.ofNat x.toNat)) rfl (wE (w_u8 x)) ?_
    repeat (refine xnot 19 ?_; first | refine xst ?_ | refine xar ?_ | refine xop ?_ | refine xlen ?_ | refine xld rfl ?_ | refine xsto rfl ?_ | refine xno ?_ | refine xt ?_ | refine xf ?_ | refine xnu ?_)
    refine xE 19 (wV (r ^^^ UInt32.ofNat x.toNat)) rfl (wE (w_xor _ _)) ?_
    generalize hr1 : r ^^^ UInt32.ofNat x.toNat = r1
    repeat (refine xnot 21 ?_; first | refine xst ?_ | refine xar ?_ | refine xop ?_ | refine xlen ?_ | refine xld rfl ?_ | refine xsto rfl ?_ | refine xno ?_ | refine xt ?_ | refine xf ?_ | refine xnu ?_)
    refine xE 21 (wV (wShr r1 4)) rfl (wE (w_shr r1 4 (by decide))) ?_
    repeat (refine xnot 23 ?_; first | refine xst ?_ | refine xar ?_ | refine xop ?_ | refine xlen ?_ | refine xld rfl ?_ | refine xsto rfl ?_ | refine xno ?_ | refine xt ?_ | refine xf ?_ | refine xnu ?_)
    refine xE 23 (wV (r1 &&& 15)) rfl (wE (w_and r1 15)) ?_
    refine xix ?_ (hk := and15 r1)
    refine xEp 24 (r1 &&& 15).toNat rfl (by show 0 + (r1 &&& 15).toNat = _; omega) ?_
    refine xld rfl ?_ (hv := nib_get r1)
    repeat (refine xnot 26 ?_; first | refine xst ?_ | refine xar ?_ | refine xop ?_ | refine xlen ?_ | refine xld rfl ?_ | refine xsto rfl ?_ | refine xno ?_ | refine xt ?_ | refine xf ?_ | refine xnu ?_)
    refine xE 26 (wV (half r1)) rfl (wE (w_xor _ _)) ?_
    generalize hr2 : half r1 = r2
    repeat (refine xnot 28 ?_; first | refine xst ?_ | refine xar ?_ | refine xop ?_ | refine xlen ?_ | refine xld rfl ?_ | refine xsto rfl ?_ | refine xno ?_ | refine xt ?_ | refine xf ?_ | refine xnu ?_)
    refine xE 28 (wV (wShr r2 4)) rfl (wE (w_shr r2 4 (by decide))) ?_
    repeat (refine xnot 30 ?_; first | refine xst ?_ | refine xar ?_ | refine xop ?_ | refine xlen ?_ | refine xld rfl ?_ | refine xsto rfl ?_ | refine xno ?_ | refine xt ?_ | refine xf ?_ | refine xnu ?_)
    refine xE 30 (wV (r2 &&& 15)) rfl (wE (w_and r2 15)) ?_
    refine xix ?_ (hk := and15 r2)
    refine xEp 31 (r2 &&& 15).toNat rfl (by show 0 + (r2 &&& 15).toNat = _; omega) ?_
    refine xld rfl ?_ (hv := nib_get r2)
    repeat (refine xnot 33 ?_; first | refine xst ?_ | refine xar ?_ | refine xop ?_ | refine xlen ?_ | refine xld rfl ?_ | refine xsto rfl ?_ | refine xno ?_ | refine xt ?_ | refine xf ?_ | refine xnu ?_)
    refine xE 33 (wV ((bs.take (i + 1)).foldl crcStep (~~~ 0))) rfl (wE (by rw [hst]; unfold crcStep; rw [hr1, hr2]; exact w_xor _ _)) ?_
    repeat (first | refine xst ?_ | refine xar ?_ | refine xop ?_ | refine xlen ?_ | refine xld rfl ?_ | refine xsto rfl ?_ | refine xno ?_ | refine xt ?_ | refine xf ?_ | refine xnu ?_)
    exact G.fin (i + 1) ⟨by show i + 1 ≤ _; omega, by show bs.length - (i + 1) < bs.length - i; omega⟩ (by repeat (first | exact trivial | refine ⟨rfl, ?_⟩)) (by first | exact Ent.refl _ | exact ent_pick)
  · obtain rfl : i = bs.length := by omega
    rw [List.take_length]
    repeat (refine xnot 36 ?_; first | refine xst ?_ | refine xar ?_ | refine xop ?_ | refine xlen ?_ | refine xld rfl ?_ | refine xsto rfl ?_ | refine xno ?_ | refine xt ?_ | refine xf ?_ | refine xnu ?_)
    refine xE 36 (wV (crcF bs)) rfl (wE (w_not _)) ?_
    repeat (first | refine xst ?_ | refine xar ?_ | refine xop ?_ | refine xlen ?_ | refine xld rfl ?_ | refine xsto rfl ?_ | refine xno ?_ | refine xt ?_ | refine xf ?_ | refine xnu ?_)
    exact xret [] ⟨rfl, rfl⟩
theorem of_spec' (a : Option Addr) (n cap : Nat) (bs : List UInt8) (hn : n = bs.length) (hl : n ≤ 1000000) : Fun Tryz.prog 94 [.slice a n cap] [gNib, slR 1 a n cap (bsV bs)] [] fun v H => v = wV (crcF bs) ∧ H = [] := by
  refine xenter (p := pg) Tryz.call94 Tryz.func94 fun C => ?_
  haveI : RP C gNib := RP.of C (by simp)
  haveI := RP.slR (RP.of C (X := slR 1 a n cap (bsV bs)) (by simp))
  repeat (first | refine xst ?_ | refine xar ?_ | refine xop ?_ | refine xlen ?_ | refine xld rfl ?_ | refine xsto rfl ?_ | refine xno ?_ | refine xt ?_ | refine xf ?_ | refine xnu ?_)
  refine xcall (on_spec a n cap bs hn hl) ?_
  rintro v H ⟨rfl, rfl⟩
  refine G.app ?_
  repeat (first | refine xst ?_ | refine xar ?_ | refine xop ?_ | refine xlen ?_ | refine xld rfl ?_ | refine xsto rfl ?_ | refine xno ?_ | refine xt ?_ | refine xf ?_ | refine xnu ?_)
  exact xret [] ⟨rfl, rfl⟩

def crcN (bs : List UInt8) : Nat := (crcF bs).toNat
theorem crcN_lt (bs : List UInt8) : crcN bs < 4294967296 := (crcF bs).toNat_lt
def sealF (bs : List UInt8) : List UInt8 := bs ++ putB (crcN bs) 4
theorem sealF_len (bs : List UInt8) : (sealF bs).length = bs.length + 4 := by simp [sealF, putB_length]
def openF (bs : List UInt8) : Option (List UInt8) := if bs.length < 4 then none else if numB (bs.drop (bs.length - 4)) = crcN (bs.take (bs.length - 4)) then some (bs.take (bs.length - 4)) else none
theorem open_seal (bs : List UInt8) : openF (sealF bs) = some bs := by
  unfold openF
  rw [if_neg (by rw [sealF_len]; omega), sealF_len, Nat.add_sub_cancel]
  have e1 : (sealF bs).take bs.length = bs := by unfold sealF; simp
  have e2 : (sealF bs).drop bs.length = putB (crcN bs) 4 := by unfold sealF; simp
  rw [e1, e2, numB_putB, if_pos (Nat.mod_eq_of_lt (crcN_lt bs))]
theorem openF_some {bs c : List UInt8} (h : openF bs = some c) : bs = sealF c := by
  unfold openF at h
  split at h
  · cases h
  · rename_i hl
    split at h
    · rename_i he
      simp only [Option.some.injEq] at h
      subst h
      unfold sealF
      rw [← he]
      have : (bs.drop (bs.length - 4)).length = 4 := by rw [List.length_drop]; omega
      have e := putB_numB (bs.drop (bs.length - 4))
      rw [this] at e
      rw [e, List.take_append_drop]
    · cases h

theorem get_spec (a : Option Addr) (n cap : Nat) (bs : List UInt8) (hn : n = bs.length) (h1 : 1 ≤ n) (h8 : n ≤ 8) : Fun Tryz.prog 93 [.slice a n cap] [slR 1 a n cap (bsV bs)] [] fun v H => v = .tuple #[.int .u64 (numB bs : Int), .int .i64 0] ∧ H = [] := by
  refine xenter (p := pg) Tryz.call93 Tryz.func93 fun C => ?_
  haveI := RP.slR (RP.of C (X := slR 1 a n cap (bsV bs)) (by simp))
  repeat (refine xnot 6 ?_; first | refine xst ?_ | refine xar ?_ | refine xop ?_ | refine xlen ?_ | refine xld rfl ?_ | refine xsto rfl ?_ | refine xno ?_ | refine xt ?_ | refine xf ?_ | refine xnu ?_)
  refine xE 6 (.bool false) rfl (congrArg Value.bool (decide_eq_false (by omega))) ?_
  repeat (refine xnot 10 ?_; first | refine xst ?_ | refine xar ?_ | refine xop ?_ | refine xlen ?_ | refine xld rfl ?_ | refine xsto rfl ?_ | refine xno ?_ | refine xt ?_ | refine xf ?_ | refine xnu ?_)
  refine xE 10 (.bool false) rfl (congrArg Value.bool (decide_eq_false (by omega))) ?_
  repeat (first | refine xst ?_ | refine xar ?_ | refine xop ?_ | refine xlen ?_ | refine xld rfl ?_ | refine xsto rfl ?_ | refine xno ?_ | refine xt ?_ | refine xf ?_ | refine xnu ?_)
  refine xcall (number_spec a n cap bs hn (by omega)) ?_
  rintro v H ⟨rfl, rfl⟩
  refine G.app ?_
  repeat (first | refine xst ?_ | refine xar ?_ | refine xop ?_ | refine xlen ?_ | refine xld rfl ?_ | refine xsto rfl ?_ | refine xno ?_ | refine xt ?_ | refine xf ?_ | refine xnu ?_)
  exact xret [] ⟨rfl, rfl⟩

theorem seal_spec (a : Option Addr) (n cap : Nat) (bs : List UInt8) (hn : n = bs.length) (hl : n ≤ 1000000) : Fun Tryz.prog 66 [.slice a n cap] [gNib, slR 1 a n cap (bsV bs)] []
    fun v H => ∃ a' cap', v = .slice a' (sealF bs).length cap' ∧ H = [sl 1 a' (sealF bs).length cap' (bsV (sealF bs))] := by
  subst hn
  refine xenter (p := pg) Tryz.call66 Tryz.func66 fun C => ?_
  haveI : RP C gNib := RP.of C (by simp)
  haveI hr := RP.slR (RP.of C (X := slR 1 a bs.length cap (bsV bs)) (by simp))
  repeat (first | refine xst ?_ | refine xar ?_ | refine xop ?_ | refine xlen ?_ | refine xld rfl ?_ | refine xsto rfl ?_ | refine xno ?_ | refine xt ?_ | refine xf ?_ | refine xnu ?_)
  refine xmake 0 (bs.length + 4) rfl rfl rfl (Nat.zero_le _) (by omega) (by omega) fun b => ?_
  repeat (first | refine xst ?_ | refine xar ?_ | refine xop ?_ | refine xlen ?_ | refine xld rfl ?_ | refine xsto rfl ?_ | refine xno ?_ | refine xt ?_ | refine xf ?_ | refine xnu ?_)
  refine xapp (zeros 0 [.int .u8 0]) rfl (SrcOk.rs hr (bsV_one _)) (by omega) fun a1 c1 => ?_
  repeat (first | refine xst ?_ | refine xar ?_ | refine xop ?_ | refine xlen ?_ | refine xld rfl ?_ | refine xsto rfl ?_ | refine xno ?_ | refine xt ?_ | refine xf ?_ | refine xnu ?_)
  refine xcall (of_spec' a bs.length cap bs rfl hl) ?_
  rintro v H ⟨rfl, rfl⟩
  refine G.app ?_
  repeat (refine xnot 14 ?_; first | refine xst ?_ | refine xar ?_ | refine xop ?_ | refine xlen ?_ | refine xld rfl ?_ | refine xsto rfl ?_ | refine xno ?_ | refine xt ?_ | refine xf ?_ | refine xnu ?_)
  refine xE 14 (.int .u64 (crcN bs : Int)) rfl (congrArg (Value.int .u64) (u64_wrap (by have := crcN_lt bs; unfold crcN at this; omega))) ?_
  refine xcall (put_spec (crcN bs) 4 (by have := crcN_lt bs; omega)) ?_
  rintro v H ⟨a2, c2, rfl, rfl⟩
  refine G.app ?_
  have e4 : putO (crcN bs) 4 = putB (crcN bs) 4 := rfl
  have l4 : (putO (crcN bs) 4).length = 4 := by rw [e4, putB_length]
  refine xapp (zeros 0 [.int .u8 0] ++ bsV bs) rfl (SrcOk.sl (by rw [bsV_length, Nat.mul_one]) (bsV_one _)) (by omega) fun a3 c3 => ?_
  repeat (first | refine xst ?_ | refine xar ?_ | refine xop ?_ | refine xlen ?_ | refine xld rfl ?_ | refine xsto rfl ?_ | refine xno ?_ | refine xt ?_ | refine xf ?_ | refine xnu ?_)
  refine xretp [0] ?_
  refine ⟨a3, c3, ?_, ?_⟩
  · show Value.slice a3 (0 + bs.length + (putO (crcN bs) 4).length) c3 = _
    rw [l4, sealF_len, Nat.zero_add]
  · rw [l4, sealF_len, Nat.zero_add]
    simp [sealF, bsV_append, zeros, e4]

theorem open_spec (a : Option Addr) (n cap : Nat) (bs : List UInt8) (hn : n = bs.length) (hl : n ≤ 1000000) (hc : n ≤ cap) : Fun Tryz.prog 49 [.slice a n cap] [gNib, slR 1 a n cap (bsV bs)] []
    fun v H => match openF bs with
      | some c => ∃ a' cap', v = .tuple #[.slice a' c.length cap', .int .i64 0] ∧ H = [sl 1 a' c.length cap' (bsV c)]
      | none => ∃ e : Int, e ≠ 0 ∧ v = .tuple #[.slice none 0 0, .int .i64 e] ∧ H = [] := by
  subst hn
  refine xenter (p := pg) Tryz.call49 Tryz.func49 fun C => ?_
  haveI : RP C gNib := RP.of C (by simp)
  haveI hr := RP.slR (RP.of C (X := slR 1 a bs.length cap (bsV bs)) (by simp))
  repeat (first | refine xst ?_ | refine xar ?_ | refine xop ?_ | refine xlen ?_ | refine xld rfl ?_ | refine xsto rfl ?_ | refine xno ?_ | refine xt ?_ | refine xf ?_ | refine xnu ?_)
  refine xd (q := (bs.length : Int) < 4) (fun h => ?_) (fun h => ?_)
  · have ho : openF bs = none := by unfold openF; rw [if_pos (by omega)]
    repeat (first | refine xst ?_ | refine xar ?_ | refine xop ?_ | refine xlen ?_ | refine xld rfl ?_ | refine xsto rfl ?_ | refine xno ?_ | refine xt ?_ | refine xf ?_ | refine xnu ?_)
    refine xretp [] ?_
    rw [ho]
    exact ⟨2, by decide, rfl, rfl⟩
  · have h4 : 4 ≤ bs.length := by omega
    obtain ⟨m, hm⟩ : ∃ m, bs.length = m + 4 := ⟨bs.length - 4, by omega⟩
    repeat (refine xnot 12 ?_; first | refine xst ?_ | refine xar ?_ | refine xop ?_ | refine xlen ?_ | refine xld rfl ?_ | refine xsto rfl ?_ | refine xno ?_ | refine xt ?_ | refine xf ?_ | refine xnu ?_)
    refine xE 12 (.int .i64 (m : Int)) rfl (congrArg (Value.int .i64) (by omega)) ?_
    have h1 := hr.subB (k := m) (m := bs.length) (by omega) (Nat.le_refl _)
    have e1 : (bs.drop m).take (bs.length - m) = bs.drop m := List.take_of_length_le (by rw [List.length_drop]; exact Nat.le_refl _)
    rw [e1] at h1
    have h2 := hr.subB (k := 0) (m := m) (Nat.zero_le _) (by omega)
    rw [subA_nought, List.drop_zero, Nat.sub_zero, Nat.sub_zero] at h2
    have l1 : (bs.drop m).length = bs.length - m := List.length_drop
    have l2 : (bs.take m).length = m := by rw [List.length_take]; omega
    haveI := h1
    haveI := h2
    repeat (first | refine xst ?_ | refine xar ?_ | refine xop ?_ | refine xlen ?_ | refine xld rfl ?_ | refine xsto rfl ?_ | refine xno ?_ | refine xt ?_ | refine xf ?_ | refine xnu ?_)
    refine xslice m bs.length rfl rfl rfl (by omega) (by omega) ?_
    refine xcall (get_spec (subA a m 1 cap) (bs.length - m) (cap - m) (bs.drop m) l1.symm (by omega) (by omega)) ?_
    rintro v H ⟨rfl, rfl⟩
    refine G.app ?_
    repeat (first | refine xst ?_ | refine xar ?_ | refine xop ?_ | refine xlen ?_ | refine xld rfl ?_ | refine xsto rfl ?_ | refine xno ?_ | refine xt ?_ | refine xf ?_ | refine xnu ?_)
    refine xslice 0 m rfl rfl rfl (by omega) (by omega) ?_
    refine xE 23 (.slice a m cap) rfl (by rw [subA_nought]; rfl) ?_
    refine xcall (of_spec' a m cap (bs.take m) l2.symm (by omega)) ?_
    rintro v H ⟨rfl, rfl⟩
    refine G.app ?_
    repeat (refine xnot 25 ?_; first | refine xst ?_ | refine xar ?_ | refine xop ?_ | refine xlen ?_ | refine xld rfl ?_ | refine xsto rfl ?_ | refine xno ?_ | refine xt ?_ | refine xf ?_ | refine xnu ?_)
    refine xE 25 (.int .u64 (crcN (bs.take m) : Int)) rfl (congrArg (Value.int .u64) (u64_wrap (by have := crcN_lt (bs.take m); unfold crcN at this; omega))) ?_
    have ho : openF bs = if numB (bs.drop m) = crcN (bs.take m) then some (bs.take m) else none := by unfold openF; rw [if_neg (by omega), hm, Nat.add_sub_cancel]
    repeat (first | refine xst ?_ | refine xar ?_ | refine xop ?_ | refine xlen ?_ | refine xld rfl ?_ | refine xsto rfl ?_ | refine xno ?_ | refine xt ?_ | refine xf ?_ | refine xnu ?_)
    refine xd (q := (numB (bs.drop m) : Int) ≠ (crcN (bs.take m) : Int)) (fun h => ?_) (fun h => ?_)
    · rw [if_neg (by omega)] at ho
      repeat (first | refine xst ?_ | refine xar ?_ | refine xop ?_ | refine xlen ?_ | refine xld rfl ?_ | refine xsto rfl ?_ | refine xno ?_ | refine xt ?_ | refine xf ?_ | refine xnu ?_)
      refine xretp [] ?_
      rw [ho]
      exact ⟨8, by decide, rfl, rfl⟩
    · rw [if_pos (by omega)] at ho
      repeat (first | refine xst ?_ | refine xar ?_ | refine xop ?_ | refine xlen ?_ | refine xld rfl ?_ | refine xsto rfl ?_ | refine xno ?_ | refine xt ?_ | refine xf ?_ | refine xnu ?_)
      refine xslice 0 m rfl rfl rfl (by omega) (by omega) ?_
      refine xE 29 (.slice a m cap) rfl (by rw [subA_nought]; rfl) ?_
      refine G.sln 1 ?_
      refine xapp [] rfl (SrcOk.rs h2 (bsV_one _)) (by omega) fun a1 c1 => ?_
      repeat (first | refine xst ?_ | refine xar ?_ | refine xop ?_ | refine xlen ?_ | refine xld rfl ?_ | refine xsto rfl ?_ | refine xno ?_ | refine xt ?_ | refine xf ?_ | refine xnu ?_)
      refine xretp [0] ?_
      rw [ho]
      refine ⟨a1, c1, ?_, ?_⟩
      · rw [l2]; simp [resV]
      · rw [l2]; simp
end Go.Proofs.YtdalmiacjicgpaaGreatDoor
