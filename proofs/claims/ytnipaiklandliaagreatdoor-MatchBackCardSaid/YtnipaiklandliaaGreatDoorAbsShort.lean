import Derived.Test.YtnipaiklandliaaGreatDoorAbsTyped
namespace Go.Abs
open Go
def q (d : Nat) (o : Op) (t : TypeId) : Oper := { dst := some d, op := o, type := t, pos := "", after := #[], guard := none }
def qn (o : Op) (t : TypeId) : Oper := { dst := none, op := o, type := t, pos := "", after := #[], guard := none }
def qg (d : Nat) (o : Op) (t : TypeId) (j : Nat) (b : Bool) : Oper := { dst := some d, op := o, type := t, pos := "", after := #[], guard := some (j, b) }
def qm (o : Op) (t : TypeId) (j : Nat) (b : Bool) : Oper := { dst := none, op := o, type := t, pos := "", after := #[], guard := some (j, b) }
def cl (f : Nat) (a : Array Operand) (ts : Array TypeId) : Op := .call { callee := .value (.func f), args := a, argTypes := ts }
def cv (x : Operand) (a : Array Operand) (ts : Array TypeId) : Op := .call { callee := .value x, args := a, argTypes := ts }
def bi (b : Builtin) (a : Array Operand) (ts : Array TypeId) : Op := .call { callee := .builtin b, args := a, argTypes := ts }
def ik (n : Int) : Operand := .const (.int .i64 n)
end Go.Abs

