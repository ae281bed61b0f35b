/-
  Errors held against nil; a code wrapped.
-/
import Derived.Test.YthejchmhjcfdiaaSLErr
import Derived.Test.YthejchmhjcfdiaaSLStar
namespace Go.Proofs.Ythejchmhjcfdiaa
open Go.SL
set_option linter.unusedVariables false
section
variable {P : Program} {n : Nat} {o : Outer} {sr : List Tmp} {ops : Array Oper} {Q : Post} {St : List HProp} {rest : List Oper} {xs : Env} {hs : List HProp}
variable {d : Option Tmp} {ty : TypeId} {pos : String} {af : Array Edge}
theorem W.err_eq {t t2 : TypeId} {x y : Operand} {u : Value} {e : Int} {r : List HProp} [ht : IfaceTy P t] (hx : ev xs x = some u) (hf : Find hs (err u e) r) (hy : y = .const .nilIface) (hd : fits n d = true)
    (k : W P n o sr ops Q St rest (put d (.bool (e == 0)) xs) hs) : W P n o sr ops Q St (⟨d, .binOp .eql t x y t2, ty, pos, af, none⟩ :: rest) xs hs :=
  W.fact (fun w hw => err_iface (hw.lift hf.lift)) fun hn => W.iface_nil hx hn hy hd k
theorem W.err_ne {t t2 : TypeId} {x y : Operand} {u : Value} {e : Int} {r : List HProp} [ht : IfaceTy P t] (hx : ev xs x = some u) (hf : Find hs (err u e) r) (hy : y = .const .nilIface) (hd : fits n d = true)
    (k : W P n o sr ops Q St rest (put d (.bool (e != 0)) xs) hs) : W P n o sr ops Q St (⟨d, .binOp .neq t x y t2, ty, pos, af, none⟩ :: rest) xs hs :=
  W.fact (fun w hw => err_iface (hw.lift hf.lift)) fun hn => W.iface_not hx hn hy hd k
end
theorem Wrap_code (what : List UInt8) (e : Int) (he : e ≠ 0) : Trip Try.prog 40 [str what, .iface 53 (.int .i64 e)] [] (fun u Ps => Ps = [err u e]) := by
  constructor; intro o w Rs hw
  exact (Wrap_spec what _ e).run o w Rs (hw.lift (.emp (err_code he) _))
end Go.Proofs.Ythejchmhjcfdiaa
