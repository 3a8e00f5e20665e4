/- Errors: what package errors finds in a Fault, and what the statements' package says of its number and place. Conditions: the library's variable on the type error as laid. -/
import Derived.Test.YtmgleeoecdodjaaDoorTg
import Derived.WalkKit
import Derived.LaidEql
import Derived.Stop.Asserts
import Derived.Laws.Externs
set_option linter.unusedVariables false
set_option linter.unusedSimpArgs false
set_option maxRecDepth 10000
namespace Go.V
open Go.RowKit
variable {P : Program}
/-- A call of a function without a body. -/
theorem GoN.ext {f : FuncId} {fn : Func} {e : Array Value → Sem Value} {args : Array Value} {w w' : World} {v : Value} {K : Value → World → Prop} (hf : P.funcs[f]? = some fn) (hname : (fn.name == "runtime.NumGoroutine") = false)
    (hb : fn.body.isNone = true) (hn : Extern.findNext fn = none) (he : Extern.find fn = some e) (hr : (e args).run P w = .ok v w') (k : K v w') : GoN P (callFunc f args) w K := by
  refine ⟨?_⟩
  rw [run_callFunc_extern hf hname hb hn he, hr]
  exact k
/-- A call of a method of an interface value's dynamic type. -/
theorem GoN.methM {t : TypeId} {v r : Value} {name : String} {args : Array Value} {f : FuncId} {w : World} {K : Value → World → Prop} (hm : (Go.method (P.types.size + Made.depth) t v name).run P w = .ok (f, r) w)
    (k : GoN P (callFunc f (#[r] ++ args)) w K) : GoN P (callMethod (.iface t v) name args) w K := by
  refine ⟨?_⟩
  have : (callMethod (.iface t v) name args).run P w = (callFunc f (#[r] ++ args)).run P w := by
    simp [callMethod, Sem.run_bind, program, Sem.run, Result.andThen, hm]
  rw [this]
  exact k.h
end Go.V
namespace Go.Proofs.YtmgleeoecdodjaaDoor.Sh
open Go Go.V Go.RowKit Go.Extern

def hnd (t : Nat) : Value := .pointer (some ⟨1, t, none⟩)
def rty (t : Nat) : Value := .iface 188 (.agg #[hnd t])
theorem n_typeOfErrno (a : Int) (w : World) : (ReflectliteType.typeOf #[.iface 94 (.int .i64 a)]).run Tryd.prog w = .ok (rty 94) w := by kernel_rfl
theorem n_typeOfFault (v : Value) (w : World) : (ReflectliteType.typeOf #[.iface 96 v]).run Tryd.prog w = .ok (rty 96) w := by kernel_rfl
theorem m_comparable (h : Value) (w : World) : (Go.method (Tryd.prog.types.size + Made.depth) 188 (.agg #[h]) "Comparable").run Tryd.prog w = .ok (108, .agg #[h]) w := by kernel_rfl
theorem m_kind (h : Value) (w : World) : (Go.method (Tryd.prog.types.size + Made.depth) 188 (.agg #[h]) "Kind").run Tryd.prog w = .ok (93, h) w := by kernel_rfl
theorem m_elem (h : Value) (w : World) : (Go.method (Tryd.prog.types.size + Made.depth) 188 (.agg #[h]) "Elem").run Tryd.prog w = .ok (109, .agg #[h]) w := by kernel_rfl
theorem m_implements (h : Value) (w : World) : (Go.method (Tryd.prog.types.size + Made.depth) 188 (.agg #[h]) "Implements").run Tryd.prog w = .ok (110, .agg #[h]) w := by kernel_rfl
theorem m_assignable (h : Value) (w : World) : (Go.method (Tryd.prog.types.size + Made.depth) 188 (.agg #[h]) "AssignableTo").run Tryd.prog w = .ok (107, .agg #[h]) w := by kernel_rfl
theorem m_unwrap (v : Value) (w : World) : (Go.method (Tryd.prog.types.size + Made.depth) 96 v "Unwrap").run Tryd.prog w = .ok (102, v) w := by kernel_rfl
theorem n_comparable (w : World) : ((ReflectliteType.method fun t => do Rtype.noPackHeld "Comparable" t; pure (.bool (← typeInfo t).comparable)) #[.agg #[hnd 94]]).run Tryd.prog w = .ok (.bool true) w := by kernel_rfl
theorem n_kindP (w : World) : ((ReflectliteType.abiMethod fun t => (fun a : Nat => Value.int IntKind.u8 (a : Int)) <$> Rtype.kind t) #[hnd 135]).run Tryd.prog w = .ok (.int .u8 22) w := by kernel_rfl
theorem n_kindF (w : World) : ((ReflectliteType.abiMethod fun t => (fun a : Nat => Value.int IntKind.u8 (a : Int)) <$> Rtype.kind t) #[hnd 96]).run Tryd.prog w = .ok (.int .u8 25) w := by kernel_rfl
theorem n_elemP (w : World) : (ReflectliteType.method ReflectliteType.elem #[.agg #[hnd 135]]).run Tryd.prog w = .ok (rty 96) w := by kernel_rfl
theorem n_implements (w : World) : (ReflectliteType.relation "Implements" ReflectliteType.implements_ #[.agg #[hnd 96], rty 42]).run Tryd.prog w = .ok (.bool true) w := by kernel_rfl
theorem n_assignable (w : World) : (ReflectliteType.relation "AssignableTo" ReflectliteType.assignableTo #[.agg #[hnd 96], rty 96]).run Tryd.prog w = .ok (.bool true) w := by kernel_rfl
theorem n_valueOfP (t : Addr) (w : World) : (ReflectliteValue.unpack (.iface 135 (.pointer (some t)))).run Tryd.prog w
    = .ok (.agg #[hnd 135, .pointer (some ⟨w.heap.size, 0, none⟩), .int .u64 150]) (w.alloc (.cells #[.pointer (some t)] 135)) := by kernel_rfl
theorem n_valueOfF (a b c : Int) (w : World) : (ReflectliteValue.unpack (.iface 96 (.agg #[.int .i64 a, .int .i64 b, .int .i64 c]))).run Tryd.prog w
    = .ok (.agg #[hnd 96, .pointer (some ⟨w.heap.size, 0, none⟩), .int .u64 153]) (w.alloc (.cells #[.int .i64 a, .int .i64 b, .int .i64 c] 96)) := by kernel_rfl
theorem n_typeP (a : Addr) (w : World) : (ReflectliteValue.methodAny (ReflectliteValue.valueError "reflectlite.Value.Type" 0) (fun t _ _ _ => ReflectliteType.toType t) #[.agg #[hnd 135, .pointer (some a), .int .u64 150]]).run Tryd.prog w
    = .ok (rty 135) w := by kernel_rfl
theorem rlm (z : Sem Value) (f : TypeId → Addr → Nat → Nat → Sem Value) (v : Value) :
    ReflectliteValue.method z f #[v] = (do match ← ReflectliteValue.parts v with | none => z | some (t, a, fl) => f t a fl (fl % 32)) := rfl
theorem n_partsP (a : Addr) (w : World) : (ReflectliteValue.parts (.agg #[hnd 135, .pointer (some a), .int .u64 150])).run Tryd.prog w = .ok (some (135, a, 150)) w := by kernel_rfl
theorem n_partsF (a : Addr) (w : World) : (ReflectliteValue.parts (.agg #[hnd 96, .pointer (some a), .int .u64 153])).run Tryd.prog w = .ok (some (96, a, 153)) w := by kernel_rfl
theorem n_partsA (a : Addr) (w : World) : (ReflectliteValue.parts (.agg #[hnd 96, .pointer (some a), .int .u64 409])).run Tryd.prog w = .ok (some (96, a, 409)) w := by kernel_rfl
/-- (Value).IsNil of a pointer that is not nil. -/
theorem n_isNilP (a p : Addr) (W : World) (ha : W.cell? a = some (.pointer (some p))) :
    (ReflectliteValue.method (ReflectliteValue.valueError "reflectlite.Value.IsNil" 0) ReflectliteValue.isNil #[.agg #[hnd 135, .pointer (some a), .int .u64 150]]).run Tryd.prog W = .ok (.bool false) W := by
  rw [rlm]
  simp only [Sem.run_bind, n_partsP, Result.andThen]
  simp [ReflectliteValue.isNil, loadVar, isAgg, underlying, Tryd.underlying135, ha, Result.andThen]
theorem n_elemOfP (w : World) : (Rtype.elem? 135).run Tryd.prog w = .ok (some 96) w := by kernel_rfl
theorem n_mkF (p : Addr) (w : World) : (ReflectliteValue.mk 96 p ReflectliteValue.flagAddr).run Tryd.prog w = .ok (.agg #[hnd 96, .pointer (some p), .int .u64 409]) w := by kernel_rfl
/-- (Value).Elem of a pointer that is not nil: what it points to. -/
theorem n_elemVP (a p : Addr) (W : World) (ha : W.cell? a = some (.pointer (some p))) :
    (ReflectliteValue.method (ReflectliteValue.valueError "reflectlite.Value.Elem" 0) ReflectliteValue.elem #[.agg #[hnd 135, .pointer (some a), .int .u64 150]]).run Tryd.prog W
      = .ok (.agg #[hnd 96, .pointer (some p), .int .u64 409]) W := by
  rw [rlm]
  simp only [Sem.run_bind, n_partsP, Result.andThen]
  simp [ReflectliteValue.elem, loadVar, isAgg, underlying, Tryd.underlying135, ha, Result.andThen, n_elemOfP, n_mkF]
theorem rls (v x : Value) : ReflectliteValue.set #[v, x] = (do
    let (some (dst, a, fl), some (src, b, _)) := (← ReflectliteValue.parts v, ← ReflectliteValue.parts x)
      | unsupported (.noEntry "extern/(internal/reflectlite.Value).Set.zeroValue")
    if fl / ReflectliteValue.flagAddr % 2 == 0 then unsupported (.noEntry "extern/(internal/reflectlite.Value).Set.unaddressable")
    let val ← loadVar src b
    if ← Rtype.directlyAssignable dst src then storeVar dst a val
    else if ← Rtype.implements dst src then
      if (← Rtype.kind src) == 20 then
        match val with
        | .nilIface => unsupported (.noEntry "extern/reflectlite: a nil value of one interface type handed on as a value of another")
        | _ => storeVar dst a val
      else storeVar dst a (.iface src val)
    else panicString ("reflectlite.Set: value of type " ++ (← Rtype.spelt src) ++ " is not assignable to type " ++ (← Rtype.spelt dst))
    pure (.tuple #[])) := rfl
theorem n_directF (w : World) : (Rtype.directlyAssignable 96 96).run Tryd.prog w = .ok true w := by kernel_rfl
/-- (Value).Set of a Fault. -/
theorem n_setF {ta b : Nat} {a1 a2 a3 : Int} {old : List Value} {W : World} {K : Value → World → Prop} (hb : Blk W b [.int .i64 a1, .int .i64 a2, .int .i64 a3] 96) (ht : Blk W ta old 96) (hl : old.length = 3)
    (k : ∀ w', Chg ta W w' → Blk w' ta [.int .i64 a1, .int .i64 a2, .int .i64 a3] 96 → K (.tuple #[]) w') :
    Run Tryd.prog (ReflectliteValue.set #[.agg #[hnd 96, .pointer (some ⟨ta, 0, none⟩), .int .u64 409], .agg #[hnd 96, .pointer (some ⟨b, 0, none⟩), .int .u64 153]]) W K := by
  have hld := run_loadN (P := Tryd.prog) agg96 (l := [.int .i64 a1, .int .i64 a2, .int .i64 a3]) rfl hb.at
  have hld : (loadVar 96 ⟨b, 0, none⟩).run Tryd.prog W = .ok (.agg #[.int .i64 a1, .int .i64 a2, .int .i64 a3]) W := by
    have := hld
    simpa [Instr.loadAt, Instr.sureAddr, Sem.run_bind, Result.andThen] using this
  have hst : RunU Tryd.prog (Instr.storeAt 96 (.pointer (some ⟨ta, 0, none⟩)) (.agg #[.int .i64 a1, .int .i64 a2, .int .i64 a3])) W (K (.tuple #[])) := by
    refine r_store size96 (l := [.int .i64 a1, .int .i64 a2, .int .i64 a3]) rfl rfl (all_one rfl) ht (by omega) fun w' c b' => k w' c ?_
    have : splice old 0 [.int .i64 a1, .int .i64 a2, .int .i64 a3] = [.int .i64 a1, .int .i64 a2, .int .i64 a3] := by
      simp [splice, hl]
    rw [this] at b'; exact b'
  obtain ⟨w', hr, hk⟩ := hst
  refine .of (w' := w') ?_ hk
  have hr : (storeVar 96 ⟨ta, 0, none⟩ (.agg #[.int .i64 a1, .int .i64 a2, .int .i64 a3])).run Tryd.prog W = .ok () w' := by
    simpa [Instr.storeAt, Instr.sureAddr, Sem.run_bind, Result.andThen] using hr
  rw [rls]
  simp only [Sem.run_bind, n_partsA, n_partsF, Result.andThen]
  simp [ReflectliteValue.flagAddr, hld, Result.andThen, n_directF, hr]
end Go.Proofs.YtmgleeoecdodjaaDoor.Sh
