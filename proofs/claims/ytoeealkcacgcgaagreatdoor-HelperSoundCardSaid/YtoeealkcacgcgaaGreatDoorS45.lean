/- A part of a proof of the helpers' law; no condition of its own. -/
import Derived.ProofKit
import Derived.OpenShut
import Derived.ChangeAt
import Derived.Test.YtoeealkcacgcgaaGreatDoorS44
set_option linter.unusedVariables false
set_option maxRecDepth 100000
noncomputable section
namespace Go.WE
open Go Go.Proofs Go.ChangeShapes Go.WideShapes Go.ChangeAt Go.RowKit
theorem kinds3:kindsOf Tryz.prog 10 3=some [some .i64]:=by kernel_rfl
theorem kinds24:kindsOf Tryz.prog 10 24=some [some .i64]:=by kernel_rfl
theorem kinds26:kindsOf Tryz.prog 10 26=some [some .u64]:=by kernel_rfl
theorem kinds56:kindsOf Tryz.prog 10 56=some [some .i64,some .i64,some .i64,some .i64,some .i64]:=by kernel_rfl
theorem kinds79:kindsOf Tryz.prog 10 79=some [some .i64,some .i64,some .i64,some .i64,some .i64,some .u64,some .u64,some .u64]:=by kernel_rfl
theorem cells3:Tryz.prog.cellsOf 3=1:=by kernel_rfl
theorem cells24:Tryz.prog.cellsOf 24=1:=by kernel_rfl
theorem cells25:Tryz.prog.cellsOf 25=1:=by kernel_rfl
theorem cells26:Tryz.prog.cellsOf 26=1:=by kernel_rfl
theorem cells28:Tryz.prog.cellsOf 28=4:=by kernel_rfl
theorem cells30:Tryz.prog.cellsOf 30=7:=by kernel_rfl
theorem cells56:Tryz.prog.cellsOf 56=5:=by kernel_rfl
theorem cells79:Tryz.prog.cellsOf 79=8:=by kernel_rfl
theorem types30:Tryz.prog.cellTypes Tryz.prog.depth 30=some [3,3,3,24,25,26,3]:=by kernel_rfl
section
variable {H:Type} {enc:TypeId×Value->H} {W:World} {base:Nat} {v:Value} {d:DataW H} {p:List MemPlace} {spare:Nat->Bool} {held:Bool} {b0:Nat}
theorem decls_open (hok:Value.okWide Tryz.prog W .any base 22 v) (h:DataW.Trod enc Tryz.prog W b0 spare held 22 v d p):SlIs W DF.arr v:=by
 obtain ⟨fuel,hf⟩:=h;simp only [Value.okWide,Tryz.underlying22] at hok;exact sl_is (sh:=DF.s) Tryz.underlying22 kinds56 cells56 rfl (by decide) mkD hok hf
theorem things_open (hok:Value.okWide Tryz.prog W .any base 23 v) (h:DataW.Trod enc Tryz.prog W b0 spare held 23 v d p):SlIs W TF.arr v:=by
 obtain ⟨fuel,hf⟩:=h;simp only [Value.okWide,Tryz.underlying23] at hok;exact sl_is (sh:=TF.s) Tryz.underlying23 kinds79 cells79 rfl (by decide) mkT hok hf
theorem int_open {fuel:Nat} {t:TypeId} {k:IntKind} {c:Value} {y:DataW H×List MemPlace} (hk:kindsOf Tryz.prog 10 t=some [some k]) (h:DataW.trod enc Tryz.prog W b0 spare held fuel t [c]=some y):∃x:U,c = .int k (vof k x):=by
 obtain ⟨x,cs,e,_⟩:=open_kinds 10 hk h;simp only [List.cons.injEq] at e;exact ⟨x,e.1⟩
theorem call_open (hok:Value.okWide Tryz.prog W .any base 30 v) (h:DataW.Trod enc Tryz.prog W b0 spare held 30 v d p):∃no cpu id rno elem key u,v=callC no cpu id rno elem u key/\SlIs W WF u:=by
 obtain ⟨fuel,hf⟩:=h;simp only [Value.okWide,Tryz.underlying30] at hok;obtain ⟨cs,rfl,hsz,ts,hts,_,hrow⟩:=hok;rw [types30] at hts;cases hts;rw [cells30] at hsz;obtain ⟨l,rfl⟩:∃l:List Value,cs=l.toArray:=⟨cs.toList,rfl⟩
 match l,hsz with
 | [c0,c1,c2,c3,c4,c5,c6],_=>
   have hf:DataW.trod enc Tryz.prog W b0 spare held fuel 30 [c0,c1,c2,c3,c4,c5,c6]=some (d,p):=hf;obtain ⟨xs,n,_,_,_,hxs,hfs⟩:=DataW.trod_struct Tryz.underlying30 hf;have hx:xs.length=4:=hxs;have get:∀i,i<4->∃y,xs[i]? = some y:=fun i hi=>⟨xs[i]'(by omega),List.getElem?_eq_getElem _⟩
   obtain ⟨y0,e0⟩:=get 0 (by decide)
   obtain ⟨y1,e1⟩:=get 1 (by decide)
   obtain ⟨y2,e2⟩:=get 2 (by decide)
   obtain ⟨y3,e3⟩:=get 3 (by decide)
   have f0:DataW.trod enc Tryz.prog W b0 spare held n 3 (([c0,c1,c2,c3,c4,c5,c6].drop 0).take (Tryz.prog.cellsOf 3))=some y0:=(hfs 0 _ rfl).trans e0;rw [cells3] at f0;have f1:DataW.trod enc Tryz.prog W b0 spare held n 3 (([c0,c1,c2,c3,c4,c5,c6].drop 1).take (Tryz.prog.cellsOf 3))=some y1:=(hfs 1 _ rfl).trans e1;rw [cells3] at f1;have f2:DataW.trod enc Tryz.prog W b0 spare held n 3 (([c0,c1,c2,c3,c4,c5,c6].drop 2).take (Tryz.prog.cellsOf 3))=some y2:=(hfs 2 _ rfl).trans e2;rw [cells3] at f2;have f3:DataW.trod enc Tryz.prog W b0 spare held n 28 (([c0,c1,c2,c3,c4,c5,c6].drop 3).take (Tryz.prog.cellsOf 28))=some y3:=(hfs 3 _ rfl).trans e3;rw [cells28] at f3;obtain ⟨no,rfl⟩:=int_open kinds3 f0;obtain ⟨cpu,rfl⟩:=int_open kinds3 f1;obtain ⟨id,rfl⟩:=int_open kinds3 f2;obtain ⟨zs,m,_,_,_,hzs,hgs⟩:=DataW.trod_struct Tryz.underlying28 f3;have hz:zs.length=4:=hzs;have get:∀i,i<4->∃y,zs[i]? = some y:=fun i hi=>⟨zs[i]'(by omega),List.getElem?_eq_getElem _⟩
   obtain ⟨z0,e0⟩:=get 0 (by decide)
   obtain ⟨z1,e1⟩:=get 1 (by decide)
   obtain ⟨z2,e2⟩:=get 2 (by decide)
   obtain ⟨z3,e3⟩:=get 3 (by decide)
   have g0:DataW.trod enc Tryz.prog W b0 spare held m 24 (([c3,c4,c5,c6].drop 0).take (Tryz.prog.cellsOf 24))=some z0:=(hgs 0 _ rfl).trans e0;rw [cells24] at g0;have g1:DataW.trod enc Tryz.prog W b0 spare held m 25 (([c3,c4,c5,c6].drop 1).take (Tryz.prog.cellsOf 25))=some z1:=(hgs 1 _ rfl).trans e1;rw [cells25] at g1;have g2:DataW.trod enc Tryz.prog W b0 spare held m 26 (([c3,c4,c5,c6].drop 2).take (Tryz.prog.cellsOf 26))=some z2:=(hgs 2 _ rfl).trans e2;rw [cells26] at g2;have g3:DataW.trod enc Tryz.prog W b0 spare held m 3 (([c3,c4,c5,c6].drop 3).take (Tryz.prog.cellsOf 3))=some z3:=(hgs 3 _ rfl).trans e3;rw [cells3] at g3;obtain ⟨rno,rfl⟩:=int_open kinds24 g0;obtain ⟨key,rfl⟩:=int_open kinds26 g2;obtain ⟨elem,rfl⟩:=int_open kinds3 g3;obtain ⟨u,hu,hc⟩:=hrow 4 c4 rfl;cases hu;obtain ⟨a0,len,cap,rfl⟩:∃a len cap,c4 = .slice a len cap:=by simp only [Cell.okWide,Tryz.underlying25] at hc;cases c4<;>simp_all [Cell.ok]
   exact ⟨no,cpu,id,rno,elem,key,_,rfl,sl_is (sh:=fun x=>Sh.int .u64 x) Tryz.underlying25 kinds26 cells26 rfl (by decide) mkW hc g1⟩
end
end Go.WE
end
