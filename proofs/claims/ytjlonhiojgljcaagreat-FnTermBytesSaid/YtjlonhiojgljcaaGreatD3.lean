/- Contracts of functions, and what they rest on: marktext marks2 markss. -/
import Derived.Test.YtjlonhiojgljcaaGreatD2
set_option linter.unusedVariables false
set_option linter.unusedSimpArgs false
set_option maxRecDepth 10000
set_option maxHeartbeats 4000000
namespace Go.Proofs.VI
open Go
def GInt.mark (_:GInt) (k:Int):GInt:=k
def GInt.w (_:GInt):Nat:=1
def GByte.mark (_:GByte) (k:Int):GByte:=UInt8.ofNat (k.toNat % 256)
def GByte.w (_:GByte):Nat:=1
def GString.mark (_:GString) (k:Int):GString:=mtext k
def GString.w (_:GString):Nat:=1
def GOpd.mark (a:GOpd) (k:Int):GOpd:=⟨k,k+1,k+1+1⟩
def GOpd.w (_:GOpd):Nat:=1+1+1
def GToken.mark (a:GToken) (k:Int):GToken:=⟨k,k+1,mtext (k+1+1)⟩
def GToken.w (_:GToken):Nat:=1+1+1
mutual
def GExpr.w:GExpr→Nat
 | .mk _ _ _ l=>3+GExpr.wL l
def GExpr.wL:List GExpr→Nat
 | []=>0
 | e::l=>GExpr.w e+GExpr.wL l
end
mutual
def GExpr.mark:GExpr→Int→GExpr
 | .mk _ _ _ l,k=> .mk (k) (k+1) (mtext (k+1+1)) (GExpr.markL l (k+1+1+1))
def GExpr.markL:List GExpr→Int→List GExpr
 | [],_=>[]
 | e::l,k=>GExpr.mark e k::GExpr.markL l (k+GExpr.w e)
end
def GSect.mark (a:GSect) (k:Int):GSect:=⟨mtext (k),decide ((k+1).tmod 3=0),markS GExpr.mark GExpr.w a.words (k+1+1)⟩
def GSect.w (a:GSect):Nat:=1+1+cntS GExpr.w a.words
def GGlob.mark (a:GGlob) (k:Int):GGlob:=⟨mtext (k),GExpr.mark a.e (k+1)⟩
def GGlob.w (a:GGlob):Nat:=1+GExpr.w a.e
def GObj.mark (a:GObj) (k:Int):GObj:=⟨markS GSect.mark GSect.w a.sects (k),markS GGlob.mark GGlob.w a.globs (k+((cntS GSect.w a.sects:Nat):Int))⟩
def GObj.w (a:GObj):Nat:=cntS GSect.w a.sects+cntS GGlob.w a.globs
def GLibMod.mark (a:GLibMod) (k:Int):GLibMod:=⟨mtext (k),markS GByte.mark GByte.w a.b (k+1)⟩
def GLibMod.w (a:GLibMod):Nat:=1+cntS GByte.w a.b
def GLib.mark (a:GLib) (k:Int):GLib:=⟨markS GLibMod.mark GLibMod.w a.mods (k)⟩
def GLib.w (a:GLib):Nat:=cntS GLibMod.w a.mods
def GPlaced.mark (a:GPlaced) (k:Int):GPlaced:=⟨k,k+1,k+1+1⟩
def GPlaced.w (_:GPlaced):Nat:=1+1+1
def GMach.mark (a:GMach) (k:Int):GMach:=⟨markS GInt.mark GInt.w a.mem (k),markS GInt.mark GInt.w a.r (k+((cntS GInt.w a.mem:Nat):Int)),decide ((k+((cntS GInt.w a.mem:Nat):Int)+((cntS GInt.w a.r:Nat):Int)).tmod 3=0),decide ((k+((cntS GInt.w a.mem:Nat):Int)+((cntS GInt.w a.r:Nat):Int)+1).tmod 3=0),decide ((k+((cntS GInt.w a.mem:Nat):Int)+((cntS GInt.w a.r:Nat):Int)+1+1).tmod 3=0),decide ((k+((cntS GInt.w a.mem:Nat):Int)+((cntS GInt.w a.r:Nat):Int)+1+1+1).tmod 3=0),markS GInt.mark GInt.w a.inp (k+((cntS GInt.w a.mem:Nat):Int)+((cntS GInt.w a.r:Nat):Int)+1+1+1+1),markS GInt.mark GInt.w a.out (k+((cntS GInt.w a.mem:Nat):Int)+((cntS GInt.w a.r:Nat):Int)+1+1+1+1+((cntS GInt.w a.inp:Nat):Int)),k+((cntS GInt.w a.mem:Nat):Int)+((cntS GInt.w a.r:Nat):Int)+1+1+1+1+((cntS GInt.w a.inp:Nat):Int)+((cntS GInt.w a.out:Nat):Int)⟩
def GMach.w (a:GMach):Nat:=cntS GInt.w a.mem+cntS GInt.w a.r+1+1+1+1+cntS GInt.w a.inp+cntS GInt.w a.out+1
abbrev GTokenS.w (x:GTokenS):Nat:=cntS GToken.w x
abbrev GTokenS.mark (x:GTokenS) (k:Int):GTokenS:=markS GToken.mark GToken.w x k
def GExpr.outs (a:GExpr) (k:Int):List AV:=[.int .i64 a.k,.int .i64 a.n,.str a.s,.ow 4 (GExpr.ows (markS GExpr.mark GExpr.w a.l (k)))]
def GObj.outs (a:GObj) (k:Int):List AV:=[.ow 3 (GSect.ows (markS GSect.mark GSect.w a.sects (k))),.ow 5 (GGlob.ows (markS GGlob.mark GGlob.w a.globs (k+cntS GSect.w a.sects)))]
def GLib.outs (a:GLib) (k:Int):List AV:=[.ow 2 (GLibMod.ows (markS GLibMod.mark GLibMod.w a.mods (k)))]
def GMach.outs (a:GMach) (k:Int):List AV:=[.ow 1 (GInt.ows (markS GInt.mark GInt.w a.mem (k))),.ow 1 (GInt.ows (markS GInt.mark GInt.w a.r (k+cntS GInt.w a.mem))),.bool a.n,.bool a.z,.bool a.v,.bool a.c,.ow 1 (GInt.ows (markS GInt.mark GInt.w a.inp (k+cntS GInt.w a.mem+cntS GInt.w a.r))),.ow 1 (GInt.ows (markS GInt.mark GInt.w a.out (k+cntS GInt.w a.mem+cntS GInt.w a.r+cntS GInt.w a.inp))),.int .i64 a.stop]
end Go.Proofs.VI
