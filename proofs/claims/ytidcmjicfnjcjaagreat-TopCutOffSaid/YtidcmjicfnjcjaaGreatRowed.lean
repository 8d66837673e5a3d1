/- What the rows of the laws of proofs have in common: a world for the witness, and what arguments read as. -/
import Derived.Test.YtidcmjicfnjcjaaGreatEvFive
import Derived.Test.YtidcmjicfnjcjaaGreatRef
import Derived.Test.YtidcmjicfnjcjaaGreatRows
import Derived.ProofKit
import Derived.OpenShut
set_option linter.all false

namespace Go.Pf
open Go Go.Ev Go.Proofs Go.RowKit Go.ChangeShapes Go.WideShapes Go.Proofs.YtidcmjicfnjcjaaGreat
theorem own:ownKnob Tryz.prog.godebug=none:=by kernel_rfl
theorem laidOut:laidOutB Tryz.prog=true:=by kernel_rfl
noncomputable def laidWorld (os:Os):World:=World.holding Tryz.prog os ⟨#[],#[],[]⟩
def KW:World→Prop:=fun _=>True
theorem hKW:∀ w w',KW w→Below w.heap.size w w'→KW w':=fun _ _ _ _=>trivial
def FitRow (es:List Sh) (row:List IV):Prop:=∀ (j:Nat) (s:Sh) (x:IV),es[j]?=some s→row[j]?=some x→ShFit s x
abbrev shI:Sh:=Sh.int IntKind.i64
theorem rows_deeds:∀ rows:List (List IV),(∀ row∈rows,row.length=5)→(∀ row∈rows,FitRow [shI,shI,shI,shI,shI] row)→∃ fs:List Deed,rows=fs.map dC
 | [],_,_=>⟨[],rfl⟩
 | row::rows,hrl,hr=>by
   obtain ⟨fs,hfs⟩:=rows_deeds rows (fun r hr'=>hrl r (by simp[hr'])) (fun r hr'=>hr r (by simp[hr']))
   have h1:=hrl row (by simp)
   match row,h1 with
   | [c0,c1,c2,c3,c4],_ =>
     have h0:=hr [c0,c1,c2,c3,c4] (by simp) 0 _ c0 rfl rfl
     have h1:=hr [c0,c1,c2,c3,c4] (by simp) 1 _ c1 rfl rfl
     have h2:=hr [c0,c1,c2,c3,c4] (by simp) 2 _ c2 rfl rfl
     have h3:=hr [c0,c1,c2,c3,c4] (by simp) 3 _ c3 rfl rfl
     have h4:=hr [c0,c1,c2,c3,c4] (by simp) 4 _ c4 rfl rfl
     cases h0 with
     | int _ n0 _ _ =>
     cases h1 with
     | int _ n1 _ _ =>
     cases h2 with
     | int _ n2 _ _ =>
     cases h3 with
     | int _ n3 _ _ =>
     cases h4 with
     | int _ n4 _ _ =>
     exact ⟨⟨n0,n1,n2,n3,n4⟩::fs,by simp[hfs]⟩
theorem rows_sights:∀ rows:List (List IV),(∀ row∈rows,row.length=5)→(∀ row∈rows,FitRow [shI,shI,shI,shI,shI] row)→∃ fs:List Sight,rows=fs.map sC
 | [],_,_=>⟨[],rfl⟩
 | row::rows,hrl,hr=>by
   obtain ⟨fs,hfs⟩:=rows_sights rows (fun r hr'=>hrl r (by simp[hr'])) (fun r hr'=>hr r (by simp[hr']))
   have h1:=hrl row (by simp)
   match row,h1 with
   | [c0,c1,c2,c3,c4],_ =>
     have h0:=hr [c0,c1,c2,c3,c4] (by simp) 0 _ c0 rfl rfl
     have h1:=hr [c0,c1,c2,c3,c4] (by simp) 1 _ c1 rfl rfl
     have h2:=hr [c0,c1,c2,c3,c4] (by simp) 2 _ c2 rfl rfl
     have h3:=hr [c0,c1,c2,c3,c4] (by simp) 3 _ c3 rfl rfl
     have h4:=hr [c0,c1,c2,c3,c4] (by simp) 4 _ c4 rfl rfl
     cases h0 with
     | int _ n0 _ _ =>
     cases h1 with
     | int _ n1 _ _ =>
     cases h2 with
     | int _ n2 _ _ =>
     cases h3 with
     | int _ n3 _ _ =>
     cases h4 with
     | int _ n4 _ _ =>
     exact ⟨⟨n0,n1,n2,n3,n4⟩::fs,by simp[hfs]⟩
theorem rows_levers:∀ rows:List (List IV),(∀ row∈rows,row.length=3)→(∀ row∈rows,FitRow [shI,shI,shI] row)→∃ fs:List Lever,rows=fs.map leC
 | [],_,_=>⟨[],rfl⟩
 | row::rows,hrl,hr=>by
   obtain ⟨fs,hfs⟩:=rows_levers rows (fun r hr'=>hrl r (by simp[hr'])) (fun r hr'=>hr r (by simp[hr']))
   have h1:=hrl row (by simp)
   match row,h1 with
   | [c0,c1,c2],_ =>
     have h0:=hr [c0,c1,c2] (by simp) 0 _ c0 rfl rfl
     have h1:=hr [c0,c1,c2] (by simp) 1 _ c1 rfl rfl
     have h2:=hr [c0,c1,c2] (by simp) 2 _ c2 rfl rfl
     cases h0 with
     | int _ n0 _ _ =>
     cases h1 with
     | int _ n1 _ _ =>
     cases h2 with
     | int _ n2 _ _ =>
     exact ⟨⟨n0,n1,n2⟩::fs,by simp[hfs]⟩
theorem rows_bals:∀ rows:List (List IV),(∀ row∈rows,row.length=4)→(∀ row∈rows,FitRow [shI,shI,shI,shI] row)→∃ fs:List Balance,rows=fs.map baC
 | [],_,_=>⟨[],rfl⟩
 | row::rows,hrl,hr=>by
   obtain ⟨fs,hfs⟩:=rows_bals rows (fun r hr'=>hrl r (by simp[hr'])) (fun r hr'=>hr r (by simp[hr']))
   have h1:=hrl row (by simp)
   match row,h1 with
   | [c0,c1,c2,c3],_ =>
     have h0:=hr [c0,c1,c2,c3] (by simp) 0 _ c0 rfl rfl
     have h1:=hr [c0,c1,c2,c3] (by simp) 1 _ c1 rfl rfl
     have h2:=hr [c0,c1,c2,c3] (by simp) 2 _ c2 rfl rfl
     have h3:=hr [c0,c1,c2,c3] (by simp) 3 _ c3 rfl rfl
     cases h0 with
     | int _ n0 _ _ =>
     cases h1 with
     | int _ n1 _ _ =>
     cases h2 with
     | int _ n2 _ _ =>
     cases h3 with
     | int _ n3 _ _ =>
     exact ⟨⟨n0,n1,n2,n3⟩::fs,by simp[hfs]⟩
theorem rows_trials:∀ rows:List (List IV),(∀ row∈rows,row.length=3)→(∀ row∈rows,FitRow [shI,shI,shI] row)→∃ fs:List Trial,rows=fs.map trC
 | [],_,_=>⟨[],rfl⟩
 | row::rows,hrl,hr=>by
   obtain ⟨fs,hfs⟩:=rows_trials rows (fun r hr'=>hrl r (by simp[hr'])) (fun r hr'=>hr r (by simp[hr']))
   have h1:=hrl row (by simp)
   match row,h1 with
   | [c0,c1,c2],_ =>
     have h0:=hr [c0,c1,c2] (by simp) 0 _ c0 rfl rfl
     have h1:=hr [c0,c1,c2] (by simp) 1 _ c1 rfl rfl
     have h2:=hr [c0,c1,c2] (by simp) 2 _ c2 rfl rfl
     cases h0 with
     | int _ n0 _ _ =>
     cases h1 with
     | int _ n1 _ _ =>
     cases h2 with
     | int _ n2 _ _ =>
     exact ⟨⟨n0,n1,n2⟩::fs,by simp[hfs]⟩
theorem shp34:shp Tryz.prog 6 34=some [.sl 40 [shI,shI,shI,shI,shI],.sl 40 [shI,shI,shI,shI,shI],shI,.sl 24 [shI,shI,shI],shI,shI,shI,.sl 32 [shI,shI,shI,shI],shI,.sl 24 [shI,shI,shI],shI,shI]:=by kernel_rfl
theorem und34:∃ fs,Tryz.prog.underlying 34=some (.struct fs):=⟨_,Tryz.underlying34⟩
def In64 (n:Int):Prop := -9223372036854775808≤n∧n≤9223372036854775807
set_option maxRecDepth 100000 in
theorem arg_proof {x:IV} (h:ArgOf Tryz.prog 34 x):∃ p,x=prV p:=by
 obtain ⟨ss,h1,h2⟩:=h
 rw[shp34] at h1
 injection h1 with h1
 subst h1
 obtain ⟨fs',hu⟩:=und34
 rw[hu] at h2
 obtain ⟨xs,rfl,hl,hf⟩:=h2
 match xs,hl with
 | [a0,a1,a2,a3,a4,a5,a6,a7,a8,a9,a10,a11],_ =>
   have h0:=hf 0 _ a0 rfl rfl
   have h1:=hf 1 _ a1 rfl rfl
   have h2:=hf 2 _ a2 rfl rfl
   have h3:=hf 3 _ a3 rfl rfl
   have h4:=hf 4 _ a4 rfl rfl
   have h5:=hf 5 _ a5 rfl rfl
   have h6:=hf 6 _ a6 rfl rfl
   have h7:=hf 7 _ a7 rfl rfl
   have h8:=hf 8 _ a8 rfl rfl
   have h9:=hf 9 _ a9 rfl rfl
   have h10:=hf 10 _ a10 rfl rfl
   have h11:=hf 11 _ a11 rfl rfl
   cases h0 with
   | sl _ _ rows0 _ _ hrl0 hr0 =>
   cases h1 with
   | sl _ _ rows1 _ _ hrl1 hr1 =>
   cases h2 with
   | int _ n2 _ _ =>
   cases h3 with
   | sl _ _ rows3 _ _ hrl3 hr3 =>
   cases h4 with
   | int _ n4 _ _ =>
   cases h5 with
   | int _ n5 _ _ =>
   cases h6 with
   | int _ n6 _ _ =>
   cases h7 with
   | sl _ _ rows7 _ _ hrl7 hr7 =>
   cases h8 with
   | int _ n8 _ _ =>
   cases h9 with
   | sl _ _ rows9 _ _ hrl9 hr9 =>
   cases h10 with
   | int _ n10 _ _ =>
   cases h11 with
   | int _ n11 _ _ =>
   obtain ⟨l0,rfl⟩:=rows_deeds rows0 hrl0 hr0
   obtain ⟨l1,rfl⟩:=rows_sights rows1 hrl1 hr1
   obtain ⟨l3,rfl⟩:=rows_levers rows3 hrl3 hr3
   obtain ⟨l7,rfl⟩:=rows_bals rows7 hrl7 hr7
   obtain ⟨l9,rfl⟩:=rows_trials rows9 hrl9 hr9
   exact ⟨⟨⟨l0,l1,n2⟩,⟨l3,n4,n5,n6,l7,n8⟩,l9,n10,n11⟩,rfl⟩
end Go.Pf
