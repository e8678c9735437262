/-
The functions of this seat,as plain functions over typed data,each with its contract. Printed by wip/tools/fngen.py.
-/
import Derived.Test.YtddpmkmgbdedlaaGreatqFdb
import Derived.Test.YtddpmkmgbdedlaaGreatqTvX
import Derived.KernelRfl
set_option linter.unusedVariables false
set_option maxRecDepth 100000
namespace Go.Proofs.YtddpmkmgbdedlaaGreat
open Go Go.Ev
def aBh (N:Nat) (m:aB) (at_:Int) (bit:Int) (ms:List (Option (List (Int)))):Option (Bool×(List (Option (List (Int))))) :=
 ((aBi N).bind fun r1 =>
 ((zK N ms).bind fun r2 =>
 (bif (!r2.1) then
 (some (false,r2.2))
 else
 ((vB N [m] r1.1 r1.2.1 r1.2.2.1 r1.2.2.2 r2.2).bind fun r3 =>
 (bif (!(r3.1==1)) then
 ((aAb N m).bind fun r4 =>
 (some (((r3.1==0)&&(!(r4.2==0))),r3.2.2.2.2.2.1)))
 else
 ((aAb N m).bind fun r5 =>
 (bif (!(((r5.1).length:Int)==0)) then
 (bif (decide (0≤(Int.tmod bit 8))) then
 ((aCG N 1 (Int.tmod (IntKind.i64.wrap at_) ((r5.1).length:Int)) (shl .u8 1 (Int.tmod bit 8)) r3.2.2.1 r3.2.2.2.1 r3.2.2.2.2.1 r3.2.2.2.2.2.2 r3.2.2.2.2.2.1).bind fun r6 =>
 (bif (!(r6.1==0)) then
 (some (false,r6.2.2.2.2.2))
 else
 ((zJ N 1 r6.2.1 r6.2.2.1 r6.2.2.2.1 r6.2.2.2.2.1 r6.2.2.2.2.2).bind fun r7 =>
 ((bif (!(r7.2.1==0)) then sA N r7.1 (⟨0,(⟨0,0⟩:aS),(⟨0,0⟩:aS),(⟨0,0⟩:aP),0,[],(⟨0,0,0,(⟨(⟨0,0⟩:aL),0,0,0,[],[],[]⟩:GOp),0,0,[],(⟨0,(Vector.replicate 8 (default:Int)),(Vector.replicate 8 (default:Int)),(Vector.replicate 8 (default:Int))⟩:aD),0,(Vector.replicate 8 (default:Int)),0,(⟨0,0,0,[]⟩:aE),0,0,0⟩:aC),0,(Vector.replicate 8 (default:Int)),0,0,[],(⟨0,(Vector.replicate 8 (default:Int)),(Vector.replicate 8 (default:Int)),(Vector.replicate 8 (default:Int))⟩:aD),(⟨0,0,0,[]⟩:aE)⟩:aB) else some default).bind fun r8 =>
 (bif ((!(r7.2.1==0))&&r8) then
 ((aH6 N r7.2.2.1 r7.2.2.2.1 r7.2.2.2.2.1 r7.2.2.2.2.2.2 r7.2.2.2.2.2.1).bind fun r9 =>
 (some ((((!(r7.2.1==0))&&r8)&&(r9.1==0)),r9.2.2.2.2.2)))
 else
 (some (false,r7.2.2.2.2.2.1)))))))
 else none)
 else none)))))))
def aL1:Con τ:=cn [.ty 43,.ty 44,.ty 5] [.pool 5] (.ty 4) [.pool 5] (fun N a b=>aBh N a.1 a.2.1 a.2.2.1 b.1) fun r=>(r.1,(r.2,()))
theorem aQG:aF E C 3 aL1:=okp aL1 [(8,aBj),(9,aH7),(10,aBY),(11,aI0),(12,aI1),(13,aCl),(14,aCq),(15,aCm)] [] 1 [] [] [] [] [] ⟨aL2,⟨aUd,⟨aMq,⟨aVu,⟨aVv,⟨aMA,⟨aMF,⟨aMC,trivial⟩⟩⟩⟩⟩⟩⟩⟩ (fun a b=>(a,b.1)) Tryz.func3 rfl (by intro N a b; kernel_rfl)
end Go.Proofs.YtddpmkmgbdedlaaGreat
