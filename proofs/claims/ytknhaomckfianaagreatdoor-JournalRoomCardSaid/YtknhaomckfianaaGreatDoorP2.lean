/- Part 2. -/
import Derived.Laws.Append
import Derived.Laws.AppendOwn
import Derived.Test.YtknhaomckfianaaGreatDoorP0
set_option linter.all false
namespace Go.Sym
section
variable{P:Program}{w:World}
set_option maxHeartbeats 4000000 in
theorem c_{tys:Array TypeId}{ts tx e ty:TypeId}{dx:TypeDesc}{i:TypeInfo}{z:Value}{base:Option Addr}{sLen sCap n:Nat}{x:Value}{olds news:List Value}(h0:tys[0]? =some ts)(h1:tys[1]? =some tx)
 (ht:P.underlying ts=some (.slice e)) (hx:P.underlying tx=some dx) (z':∀j,dx≠ .int j) (hi:P.info? e=some i) (hz:i.zero=some z)
 (hlen:(Builtin.lenOf x).run P w= .ok n w) (hg:sCap<sLen+n) (h63:((sLen+n:Nat):Int)<=9223372036854775807) (w7:Builtin.nextslicecap (sLen+n) sCap * i.bytes<=281474976710656)
 (hold:(Builtin.firstCells i.size sLen (.slice base sLen sCap)).run P w.drew= .ok olds.toArray w.drew) (j4:(Builtin.firstCells i.size n x).run P w.drew= .ok news.toArray w.drew):
 (Builtin.append_ tys ty #[.slice base sLen sCap,x]).run P w= .ok (.slice (some ⟨w.heap.size,0,none⟩) (sLen+n) (grownCap w (sLen+n) sCap e))
  (w.drew.alloc (.cells (olds++news++(Builtin.zeroCells z.cells (grownCap w (sLen+n) sCap e-(sLen+n))).toList).toArray e)):=by
 have hn:¬(sLen+n<=sCap):=by omega
 have ah1:¬(9223372036854775807<((sLen:Int)+(n:Int))):=by omega
 have ah2:¬(281474976710656<Builtin.nextslicecap (sLen+n) sCap * i.bytes):=by omega
 cases dx <;> first
  |exact absurd rfl (z' _)
  |(simp [Builtin.append_,h0,h1,run_underlying ht,run_underlying hx,sizeOf,typeInfo,zeroValue,hi,hz,hlen,hn,ah1,ah2,Question.forced,hold,j4,newRow,grownCap];congr 2;apply Array.ext';simp)
set_option maxHeartbeats 4000000 in
def aP{tys:Array TypeId}{ts tx e ty:TypeId}{dx:TypeDesc}{i:TypeInfo}{base:Option Addr}{sLen sCap:Nat}{x:Value}(h0:tys[0]? =some ts)(h1:tys[1]? =some tx)(ht:P.underlying ts=some (.slice e))(hx:P.underlying tx=some dx)(z':∀j,dx≠ .int j)(hi:P.info? e=some i)(hlen:(Builtin.lenOf x).run P w= .ok 0 w)(hg:sLen<=sCap)(j4:(Builtin.firstCells i.size 0 x).run P w= .ok #[] w):
 (Builtin.append_ tys ty #[.slice base sLen sCap,x]).run P w= .ok (.slice base sLen sCap) w:=by
 cases dx <;> first
  |exact absurd rfl (z' _)
  |(cases base <;> simp [Builtin.append_,h0,h1,run_underlying ht,run_underlying hx,sizeOf,typeInfo,hi,hlen,hg,j4,storeCells] <;> done)
def aQ{x:Value}{size n:Nat}(hlen:(Builtin.lenOf x).run P w= .ok n w):(Builtin.firstCells size 0 x).run P w= .ok #[] w:=by
 cases x with
 |slice b l c=>cases b <;> simp [Builtin.firstCells,loadCells,loadCellsFrom]
 |string s=>simp [Builtin.firstCells]
 |_=>simp [Builtin.lenOf] at hlen
end
end Go.Sym
