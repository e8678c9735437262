/-
Plain laws of another seat,turned to this one by wip/tools/ren2.py.
-/
import Derived.Test.YtddpmkmgbdedlaaGreatqFn
import Derived.Test.YtddpmkmgbdedlaaGreatqWt
set_option linter.unusedVariables false
set_option linter.unusedSimpArgs false
namespace Go.Proofs.YtddpmkmgbdedlaaGreat
open Go Go.Ev
section
variable {N:Nat} {e0:Int} {w:List Int}
theorem opsB_flat (l:List GOp):((l.map opC).flatten).flatten=(l.map opB).flatten:=by
  induction l with
  | nil=>rfl
  | cons x l ih=>simp only [List.map_cons,List.flatten_cons,List.flatten_append,ih]; rfl
theorem ptC_flat (p:GPart):(ptC p).flatten=([p.Snap,p.Index,p.Many].map pI).flatten++pB p.Data:=by
  simp [ptC]
theorem kind9 {e:z9} (h:kindE e):e.Kind=0∨e.Kind=1∨e.Kind=2∨e.Kind=3∨e.Kind=4∨e.Kind=5∨e.Kind=6∨e.Kind=7∨e.Kind=8:=by unfold kindE at h; omega
def baC (b:zu):List (List Int):=[b.Round].map pI++[b.Replica].map pI
def slC (x:zc):List (List Int):=[x.Slot].map pI++baC x.Ballot++enC x.Entry
def lsC (l:List zc):List (List Int):=[(l.length:Int)].map pI++(l.map slC).flatten
def slB (x:zc):List Int:=(slC x).flatten
theorem ba64 {b:zu} (h:MayBa b):R64 b.Round∧R64 b.Replica:=⟨cnt64 h.1,⟨by have:=h.2; omega,by have:=h.2; omega⟩⟩
theorem slB_eq (x:zc):slB x=([x.Slot,x.Ballot.Round,x.Ballot.Replica].map pI).flatten++enB x.Entry:=by
  unfold slB slC baC
  simp only [List.flatten_append,List.map_cons,List.map_nil,List.flatten_cons,List.flatten_nil,List.append_nil,List.append_assoc]; rfl
theorem slsB_flat (l:List zc):((l.map slC).flatten).flatten=(l.map slB).flatten:=by
  induction l with
  | nil=>rfl
  | cons x l ih=>simp only [List.map_cons,List.flatten_cons,List.flatten_append,ih]; rfl
theorem lsC_flat (l:List zc):(lsC l).flatten=([(l.length:Int)].map pI).flatten++(l.map slB).flatten:=by
  unfold lsC; rw [List.flatten_append,slsB_flat]
theorem zxg (hN:20≤N) {b:zu} (h:MayBa b) (hw:w.length≤1048576):zp N b e0 true w=some (wr e0 w (baC b)):=by
  unfold zp
  rw [ints1 hN (ba64 h).1 hw,Option.bind_some,z37,zpu hN (ba64 h).2 (z21 hw _),z1v,Option.bind_some]
  rfl
theorem adw_eq (hN:20≤N) {a:GAddr} (h:MayAd a) (hw:w.length≤1048576):z3t N a e0 true w=some (wr e0 w ([a.Group,a.Replica].map pI)):=by
  obtain ⟨⟨h1,h2⟩,h3,h4⟩:=h
  unfold z3t
  rw [small2 hN ⟨by omega,by omega⟩ ⟨by omega,by omega⟩ hw,Option.bind_some]
theorem lsw_eq {l:List zc} (hN:roomS N l) (hl:l.length≤4096) (h:∀ x∈l,MaySl x) (hw:w.length≤1048576):z15 N l e0 true w=some (wr e0 w (lsC l)):=by
  have hN1:=hN.1
  unfold z15
  rw [zpu (by omega) ⟨by omega,by omega⟩ hw,Option.bind_some]
  refine z2i (fun q:z2p=>0≤q.t13∧q.t13≤(l.length:Int)∧q.b1=true∧q.b12.length≤1048576∧wr q.b0 q.b12 ((l.drop q.t13.toNat).map slC).flatten=wr e0 w (lsC l)) (fun q=>((l.length:Int) - q.t13).toNat) ?_ N _ ⟨by simp,by simp,rfl,z21 hw _,?_⟩ (by simp; omega)
  · rintro ⟨i,b0,b1,b12⟩ nx ⟨g0,g1,rfl,g3,hq⟩ ih
    simp only at g0 g1 g3 hq ih ⊢
    by_cases hi:i < l.length
    · have hmem:=za9 (default:zc) g0 hi
      have hm:=h _ hmem
      rw [z2a (default:zc) g0 hi,List.map_cons,List.flatten_cons,← z1v] at hq
      simp only [decide_eq_true hi,z3x g0 hi,cond_true]
      rw [ints1 (by omega) (cnt64 hm.1) g3,Option.bind_some,z37,zxg (by omega) hm.2.1 (z21 g3 _),z1v,Option.bind_some,z37]
      change (z1x N (lget l i default).Entry _ true _).bind _=_
      rw [z11z (hN.2.2 _ hmem).1 hm.2.2 (z21 g3 _),z1v,Option.bind_some,z20 (by omega) (by omega)]
      exact ih ⟨i+1,_,_,_⟩ ⟨by simp; omega,by simp; omega,rfl,z21 g3 _,hq⟩ (by simp; omega)
    · have:decide (i < (l.length:Int))=false:=by simpa using hi
      simp only [this,cond_false]
      rw [List.drop_eq_nil_of_le (by omega)] at hq
      rw [← hq]; rfl
  · simp only
    rw [z1v]; simp [lsC]
end
def bdC (m:GMsg):List (List Int) :=
  bif m.Kind==1 then baC m.Ballot++[m.Slot].map pI else
  bif m.Kind==2 then baC m.Ballot++[m.Slot].map pI++lsC m.List_ else
  bif m.Kind==3 then baC m.Ballot++lsC m.List_ else
  bif m.Kind==4 then baC m.Ballot++[m.Slot].map pI else
  bif m.Kind==5 then baC m.Ballot else
  bif m.Kind==6 then lsC m.List_ else
  bif m.Kind==7 then baC m.Ballot++[m.Slot].map pI else
  bif m.Kind==8 then [m.Slot].map pI else
  bif m.Kind==9 then enC m.Entry else
  bif m.Kind==10 then [m.Number].map pI++m.Vector_.toList.map pI++[m.Clock].map pI else
  bif m.Kind==11 then [m.Number].map pI++[m.Origin].map pI++[m.Slot].map pI++opsC m.Ops else
  bif m.Kind==12 then epC m.Epoch else
  bif m.Kind==13 then ptC m.Part else
  bif m.Kind==14 then [m.Number].map pI++m.Vector_.toList.map pI else
  bif m.Kind==15 then [m.Slot].map pI++ptC m.Part else
  []
def hdC (m:GMsg):List (List Int):=[m.Kind].map pI++[m.From.Group,m.From.Replica].map pI++[m.To.Group,m.To.Replica].map pI
def msC (m:GMsg):List (List Int):=hdC m++bdC m
def msB (m:GMsg):List Int:=(msC m).flatten
structure MayMs (m:GMsg):Prop where
  kind:kindM m
  bare:m=bareM m
  from_:MayAd m.From
  to_:MayAd m.To
  ba:MayBa m.Ballot
  slot:cnt m.Slot
  number:cnt m.Number
  clock:cnt m.Clock
  vec:zeu m.Vector_
  sp:sp2 m=true
theorem byt_bareM {m:GMsg} (h:bytM m):bytM (bareM m):=by
  obtain ⟨h1,h2,h3⟩:=h
  have r1:∀ x∈([]:List zc),byt x.Entry.Part.Data:=fun x hx=>by cases hx
  have r2:byt zEn.Part.Data:=fun x hx=>by cases hx
  have r4:byt zPt.Data:=fun x hx=>by cases hx
  unfold bareM
  repeat' (refine (show ∀ (c:Bool) (x y:GMsg),bytM x→bytM y→bytM (bif c then x else y) from fun c x y hx hy=>by cases c<;>assumption) _ _ _ ?_ ?_)
  all_goals exact ⟨by first | exact h1 | exact r1,by first | exact h2 | exact r2,by first | exact h3 | exact r4⟩
theorem z10d {m:GMsg} (hb:bytM m):mayM m=true↔MayMs m:=by
  unfold mayM numM
  simp only [Bool.and_eq_true,decide_eq_true_eq]
  rw [zoq hb (byt_bareM hb)]
  constructor
  · rintro ⟨⟨⟨⟨h1,h2⟩,h3,h4⟩,⟨h5,⟨h6,h7⟩,h8⟩,h9⟩,h10⟩
    exact ⟨h1,h2,h3,h4,h5,h6,h7,h8,h9,h10⟩
  · rintro ⟨h1,h2,h3,h4,h5,h6,h7,h8,h9,h10⟩
    exact ⟨⟨⟨⟨h1,h2⟩,h3,h4⟩,⟨h5,⟨h6,h7⟩,h8⟩,h9⟩,h10⟩
theorem maySl_iff {x:zc} (hb:byt x.Entry.Part.Data):maySl x=true↔MaySl x:=by
  unfold maySl MaySl
  simp only [Bool.and_eq_true,decide_eq_true_eq,zsk hb]
  exact and_assoc
theorem zxh {l:List zc} (hb:∀ x∈l,byt x.Entry.Part.Data) {a b:Int} (h:zd7 l a b=true):(a≤(l.length:Int)∧(l.length:Int)≤b)∧∀ x∈l,MaySl x:=by
  unfold zd7 at h
  simp only [Bool.and_eq_true,decide_eq_true_eq,List.all_eq_true] at h
  exact ⟨h.1,fun x hx=>(maySl_iff (hb x hx)).1 (h.2 x hx)⟩
section
variable {N:Nat} {e0:Int} {w:List Int}
def spP (m:GMsg):Prop :=
  (m.Kind=2→m.List_.length≤4096∧∀ x∈m.List_,MaySl x)∧(m.Kind=3→m.List_.length≤4096∧∀ x∈m.List_,MaySl x)∧(m.Kind=6→m.List_.length≤4096∧∀ x∈m.List_,MaySl x) ∧
  (m.Kind=9→MayEn m.Entry)∧(m.Kind=11→sit m.Origin∧zed m.Ops)∧(m.Kind=12→MayEp m.Epoch)∧(m.Kind=13→MayPt m.Part)∧(m.Kind=15→MayPt m.Part)
theorem spP_of {m:GMsg} (hb:bytM m) (h:sp2 m=true):spP m:=by
  unfold sp2 at h
  refine ⟨fun e=>?_,fun e=>?_,fun e=>?_,fun e=>?_,fun e=>?_,fun e=>?_,fun e=>?_,fun e=>?_⟩<;>rw [e] at h<;>simp only [Int.reduceBEq,cond_true,cond_false] at h
  · obtain ⟨⟨_,h1⟩,h2⟩:=zxh hb.1 h; exact ⟨by omega,h2⟩
  · obtain ⟨⟨_,h1⟩,h2⟩:=zxh hb.1 h; exact ⟨by omega,h2⟩
  · obtain ⟨⟨_,h1⟩,h2⟩:=zxh hb.1 h; exact ⟨by omega,h2⟩
  · exact (zsk hb.2.1).1 h
  · simpa using h
  · simpa using h
  · simpa using h
  · simpa using h
theorem ad64 {a:GAddr} (h:MayAd a):R64 a.Group∧R64 a.Replica:=by
  obtain ⟨⟨h1,h2⟩,h3,h4⟩:=h
  exact ⟨⟨by omega,by omega⟩,⟨by omega,by omega⟩⟩
theorem z14f (b:zu):(baC b).flatten=([b.Round,b.Replica].map pI).flatten:=by simp [baC]
theorem k64 {m:GMsg} (h:kindM m):R64 m.Kind:=⟨by have:=h.1; omega,by have:=h.2; omega⟩
theorem msgw_eq (hN:20≤N) {m:GMsg} (hr:roomM N m) (h:MayMs m) (hw:w.length≤1048576):z6v N m e0 true w=some (wr e0 w (msC m)):=by
  have hs:=spP_of hr.byt h.sp
  have hk':=z121 h.kind
  unfold z6v
  rw [zpu hN (k64 h.kind) hw,Option.bind_some,z37,adw_eq hN h.from_ (z21 hw _),z1v,Option.bind_some,z37,adw_eq hN h.to_ (z21 hw _),z1v,Option.bind_some,z37]
  have e0':msC m=([m.Kind].map pI++[m.From.Group,m.From.Replica].map pI++[m.To.Group,m.To.Replica].map pI)++bdC m:=rfl
  rw [e0']
  generalize ([m.Kind].map pI++[m.From.Group,m.From.Replica].map pI++[m.To.Group,m.To.Replica].map pI)=H
  rcases hk' with hk | hk | hk | hk | hk | hk | hk | hk | hk | hk | hk | hk | hk | hk | hk
  · have e1:bdC m=baC m.Ballot++[m.Slot].map pI:=by unfold bdC; rw [hk]; rfl
    rw [hk]; simp only [Int.reduceBEq,cond_true,cond_false]
    rw [zxg hN h.ba (z21 hw _),z1v,Option.bind_some,z37,ints1 hN (cnt64 h.slot) (z21 hw _),z1v,Option.bind_some]
    first | (rw [e1]; done) | (rw [e1]; rfl) | (rw [e1]; simp only [List.append_assoc]; done) | (rw [e1]; simp only [List.append_assoc]; rfl)
  · have e1:bdC m=baC m.Ballot++[m.Slot].map pI++lsC m.List_:=by unfold bdC; rw [hk]; rfl
    obtain ⟨q1,q2⟩:=hs.1 hk
    rw [hk]; simp only [Int.reduceBEq,cond_true,cond_false]
    rw [zxg hN h.ba (z21 hw _),z1v,Option.bind_some,z37,ints1 hN (cnt64 h.slot) (z21 hw _),z1v,Option.bind_some,z37,lsw_eq hr.1 q1 q2 (z21 hw _),z1v,Option.bind_some]
    first | (rw [e1]; done) | (rw [e1]; rfl) | (rw [e1]; simp only [List.append_assoc]; done) | (rw [e1]; simp only [List.append_assoc]; rfl)
  · have e1:bdC m=baC m.Ballot++lsC m.List_:=by unfold bdC; rw [hk]; rfl
    obtain ⟨q1,q2⟩:=hs.2.1 hk
    rw [hk]; simp only [Int.reduceBEq,cond_true,cond_false]
    rw [zxg hN h.ba (z21 hw _),z1v,Option.bind_some,z37,lsw_eq hr.1 q1 q2 (z21 hw _),z1v,Option.bind_some]
    first | (rw [e1]; done) | (rw [e1]; rfl) | (rw [e1]; simp only [List.append_assoc]; done) | (rw [e1]; simp only [List.append_assoc]; rfl)
  · have e1:bdC m=baC m.Ballot++[m.Slot].map pI:=by unfold bdC; rw [hk]; rfl
    rw [hk]; simp only [Int.reduceBEq,cond_true,cond_false]
    rw [zxg hN h.ba (z21 hw _),z1v,Option.bind_some,z37,ints1 hN (cnt64 h.slot) (z21 hw _),z1v,Option.bind_some]
    first | (rw [e1]; done) | (rw [e1]; rfl) | (rw [e1]; simp only [List.append_assoc]; done) | (rw [e1]; simp only [List.append_assoc]; rfl)
  · have e1:bdC m=baC m.Ballot:=by unfold bdC; rw [hk]; rfl
    rw [hk]; simp only [Int.reduceBEq,cond_true,cond_false]
    rw [zxg hN h.ba (z21 hw _),z1v,Option.bind_some]
    first | (rw [e1]; done) | (rw [e1]; rfl) | (rw [e1]; simp only [List.append_assoc]; done) | (rw [e1]; simp only [List.append_assoc]; rfl)
  · have e1:bdC m=lsC m.List_:=by unfold bdC; rw [hk]; rfl
    obtain ⟨q1,q2⟩:=hs.2.2.1 hk
    rw [hk]; simp only [Int.reduceBEq,cond_true,cond_false]
    rw [lsw_eq hr.1 q1 q2 (z21 hw _),z1v,Option.bind_some]
    first | (rw [e1]; done) | (rw [e1]; rfl) | (rw [e1]; simp only [List.append_assoc]; done) | (rw [e1]; simp only [List.append_assoc]; rfl)
  · have e1:bdC m=baC m.Ballot++[m.Slot].map pI:=by unfold bdC; rw [hk]; rfl
    rw [hk]; simp only [Int.reduceBEq,cond_true,cond_false]
    rw [zxg hN h.ba (z21 hw _),z1v,Option.bind_some,z37,ints1 hN (cnt64 h.slot) (z21 hw _),z1v,Option.bind_some]
    first | (rw [e1]; done) | (rw [e1]; rfl) | (rw [e1]; simp only [List.append_assoc]; done) | (rw [e1]; simp only [List.append_assoc]; rfl)
  · have e1:bdC m=[m.Slot].map pI:=by unfold bdC; rw [hk]; rfl
    rw [hk]; simp only [Int.reduceBEq,cond_true,cond_false]
    rw [ints1 hN (cnt64 h.slot) (z21 hw _),z1v,Option.bind_some]
    first | (rw [e1]; done) | (rw [e1]; rfl) | (rw [e1]; simp only [List.append_assoc]; done) | (rw [e1]; simp only [List.append_assoc]; rfl)
  · have e1:bdC m=enC m.Entry:=by unfold bdC; rw [hk]; rfl
    rw [hk]; simp only [Int.reduceBEq,cond_true,cond_false]
    rw [z11z hr.2.1.1 (hs.2.2.2.1 hk) (z21 hw _),z1v,Option.bind_some]
    first | (rw [e1]; done) | (rw [e1]; rfl) | (rw [e1]; simp only [List.append_assoc]; done) | (rw [e1]; simp only [List.append_assoc]; rfl)
  · have e1:bdC m=[m.Number].map pI++m.Vector_.toList.map pI++[m.Clock].map pI:=by unfold bdC; rw [hk]; rfl
    rw [hk]; simp only [Int.reduceBEq,cond_true,cond_false]
    rw [ints1 hN (cnt64 h.number) (z21 hw _),z1v,Option.bind_some,z37,ints8 hN (fun n hn=>cnt64 (h.vec n hn)) (z21 hw _),z1v,Option.bind_some,z37,ints1 hN (cnt64 h.clock) (z21 hw _),z1v,Option.bind_some]
    first | (rw [e1]; done) | (rw [e1]; rfl) | (rw [e1]; simp only [List.append_assoc]; done) | (rw [e1]; simp only [List.append_assoc]; rfl)
  · have e1:bdC m=[m.Number].map pI++[m.Origin].map pI++[m.Slot].map pI++opsC m.Ops:=by unfold bdC; rw [hk]; rfl
    obtain ⟨q1,q2⟩:=hs.2.2.2.2.1 hk
    rw [hk]; simp only [Int.reduceBEq,cond_true,cond_false]
    rw [ints1 hN (cnt64 h.number) (z21 hw _),z1v,Option.bind_some,z37,zpu hN (sit64 q1) (z21 hw _),z1v,Option.bind_some,z37,ints1 hN (cnt64 h.slot) (z21 hw _),z1v,Option.bind_some,z37,opsw_eq hr.2.2.1.1 q2 (z21 hw _),z1v,Option.bind_some]
    first | (rw [e1]; done) | (rw [e1]; rfl) | (rw [e1]; simp only [List.append_assoc]; done) | (rw [e1]; simp only [List.append_assoc]; rfl)
  · have e1:bdC m=epC m.Epoch:=by unfold bdC; rw [hk]; rfl
    rw [hk]; simp only [Int.reduceBEq,cond_true,cond_false]
    rw [epw_eq hN (hs.2.2.2.2.2.1 hk) (z21 hw _),z1v,Option.bind_some]
    first | (rw [e1]; done) | (rw [e1]; rfl) | (rw [e1]; simp only [List.append_assoc]; done) | (rw [e1]; simp only [List.append_assoc]; rfl)
  · have e1:bdC m=ptC m.Part:=by unfold bdC; rw [hk]; rfl
    rw [hk]; simp only [Int.reduceBEq,cond_true,cond_false]
    rw [ptw_eq hN (hs.2.2.2.2.2.2.1 hk) (z21 hw _),z1v,Option.bind_some]
    first | (rw [e1]; done) | (rw [e1]; rfl) | (rw [e1]; simp only [List.append_assoc]; done) | (rw [e1]; simp only [List.append_assoc]; rfl)
  · have e1:bdC m=[m.Number].map pI++m.Vector_.toList.map pI:=by unfold bdC; rw [hk]; rfl
    rw [hk]; simp only [Int.reduceBEq,cond_true,cond_false]
    rw [ints1 hN (cnt64 h.number) (z21 hw _),z1v,Option.bind_some,z37,ints8 hN (fun n hn=>cnt64 (h.vec n hn)) (z21 hw _),z1v,Option.bind_some]
    first | (rw [e1]; done) | (rw [e1]; rfl) | (rw [e1]; simp only [List.append_assoc]; done) | (rw [e1]; simp only [List.append_assoc]; rfl)
  · have e1:bdC m=[m.Slot].map pI++ptC m.Part:=by unfold bdC; rw [hk]; rfl
    rw [hk]; simp only [Int.reduceBEq,cond_true,cond_false]
    rw [ints1 hN (cnt64 h.slot) (z21 hw _),z1v,Option.bind_some,z37,ptw_eq hN (hs.2.2.2.2.2.2.2 hk) (z21 hw _),z1v,Option.bind_some]
    first | (rw [e1]; done) | (rw [e1]; rfl) | (rw [e1]; simp only [List.append_assoc]; done) | (rw [e1]; simp only [List.append_assoc]; rfl)
theorem sl_CB {x:zc} (h:MaySl x) (hb:byt x.Entry.Part.Data):CB (slC x) :=
  ((CB.int1 (cnt64 h.1)).append ((CB.int1 (ba64 h.2.1).1).append (CB.int1 (ba64 h.2.1).2))).append (CB.en h.2.2 hb)
theorem ls_CB {l:List zc} (hl:l.length≤4096) (h:∀ x∈l,MaySl x) (hb:∀ x∈l,byt x.Entry.Part.Data):CB (lsC l) :=
  (CB.int1 ⟨by omega,by omega⟩).append fun c hc=>by
    obtain ⟨cs,hcs,hc⟩:=List.mem_flatten.1 hc
    obtain ⟨o,ho,rfl⟩:=List.mem_map.1 hcs
    exact sl_CB (h o ho) (hb o ho) c hc
theorem ms_CB {m:GMsg} (hb:bytM m) (h:MayMs m):CB (msC m):=by
  have hs:=spP_of hb h.sp
  have hk':=z121 h.kind
  refine (((CB.int1 (k64 h.kind)).append (CB.int2 (ad64 h.from_).1 (ad64 h.from_).2)).append (CB.int2 (ad64 h.to_).1 (ad64 h.to_).2)).append ?_
  rcases hk' with hk | hk | hk | hk | hk | hk | hk | hk | hk | hk | hk | hk | hk | hk | hk
  · rw [show bdC m=baC m.Ballot++[m.Slot].map pI by unfold bdC; rw [hk]; rfl]
    exact ((((CB.int1 (ba64 h.ba).1).append (CB.int1 (ba64 h.ba).2))).append (CB.int1 (cnt64 h.slot)))
  · rw [show bdC m=baC m.Ballot++[m.Slot].map pI++lsC m.List_ by unfold bdC; rw [hk]; rfl]
    obtain ⟨q1,q2⟩:=hs.1 hk
    exact (((((CB.int1 (ba64 h.ba).1).append (CB.int1 (ba64 h.ba).2))).append (CB.int1 (cnt64 h.slot))).append (ls_CB q1 q2 hb.1))
  · rw [show bdC m=baC m.Ballot++lsC m.List_ by unfold bdC; rw [hk]; rfl]
    obtain ⟨q1,q2⟩:=hs.2.1 hk
    exact ((((CB.int1 (ba64 h.ba).1).append (CB.int1 (ba64 h.ba).2))).append (ls_CB q1 q2 hb.1))
  · rw [show bdC m=baC m.Ballot++[m.Slot].map pI by unfold bdC; rw [hk]; rfl]
    exact ((((CB.int1 (ba64 h.ba).1).append (CB.int1 (ba64 h.ba).2))).append (CB.int1 (cnt64 h.slot)))
  · rw [show bdC m=baC m.Ballot by unfold bdC; rw [hk]; rfl]
    exact (((CB.int1 (ba64 h.ba).1).append (CB.int1 (ba64 h.ba).2)))
  · rw [show bdC m=lsC m.List_ by unfold bdC; rw [hk]; rfl]
    obtain ⟨q1,q2⟩:=hs.2.2.1 hk
    exact (ls_CB q1 q2 hb.1)
  · rw [show bdC m=baC m.Ballot++[m.Slot].map pI by unfold bdC; rw [hk]; rfl]
    exact ((((CB.int1 (ba64 h.ba).1).append (CB.int1 (ba64 h.ba).2))).append (CB.int1 (cnt64 h.slot)))
  · rw [show bdC m=[m.Slot].map pI by unfold bdC; rw [hk]; rfl]
    exact (CB.int1 (cnt64 h.slot))
  · rw [show bdC m=enC m.Entry by unfold bdC; rw [hk]; rfl]
    exact (CB.en (hs.2.2.2.1 hk) hb.2.1)
  · rw [show bdC m=[m.Number].map pI++m.Vector_.toList.map pI++[m.Clock].map pI by unfold bdC; rw [hk]; rfl]
    exact (((CB.int1 (cnt64 h.number)).append (CB.ints (fun n hn=>cnt64 (h.vec n hn)))).append (CB.int1 (cnt64 h.clock)))
  · rw [show bdC m=[m.Number].map pI++[m.Origin].map pI++[m.Slot].map pI++opsC m.Ops by unfold bdC; rw [hk]; rfl]
    obtain ⟨q1,q2⟩:=hs.2.2.2.2.1 hk
    exact ((((CB.int1 (cnt64 h.number)).append (CB.int1 (sit64 q1))).append (CB.int1 (cnt64 h.slot))).append (CB.ops q2))
  · rw [show bdC m=epC m.Epoch by unfold bdC; rw [hk]; rfl]
    exact (CB.ep (hs.2.2.2.2.2.1 hk))
  · rw [show bdC m=ptC m.Part by unfold bdC; rw [hk]; rfl]
    exact (CB.pt (hs.2.2.2.2.2.2.1 hk) hb.2.2)
  · rw [show bdC m=[m.Number].map pI++m.Vector_.toList.map pI by unfold bdC; rw [hk]; rfl]
    exact ((CB.int1 (cnt64 h.number)).append (CB.ints (fun n hn=>cnt64 (h.vec n hn))))
  · rw [show bdC m=[m.Slot].map pI++ptC m.Part by unfold bdC; rw [hk]; rfl]
    exact ((CB.int1 (cnt64 h.slot)).append (CB.pt (hs.2.2.2.2.2.2.2 hk) hb.2.2))
theorem msB_byt {m:GMsg} (hb:bytM m) (h:MayMs m):byt (msB m):=(ms_CB hb h).flat
theorem z154 (hN:1048700≤N) {m:GMsg} (hr:roomM N m) :
    (MayMs m∧(msB m).length≤1048576∧z4o N m=some (zbm (msB m),0))∨(MayMs m∧1048576 < (msB m).length∧z4o N m=some ([],3))∨(¬ MayMs m∧z4o N m=some ([],40)):=by
  unfold z4o zgf
  rw [zxe (by omega) hr,Option.bind_some]
  by_cases hm:MayMs m
  · rw [(z10d hr.byt).2 hm]
    simp only [cond_true,beq_self_eq_true,Bool.not_true,cond_false,Option.bind_some]
    rw [msgw_eq (by omega) hr hm (by simp),Option.bind_some]
    by_cases h:(msB m).length≤1048576
    · refine .inl ⟨hm,h,?_⟩
      rw [wr_fit (by simpa [msB] using h)]
      simp only [beq_self_eq_true,Bool.not_true,cond_false,List.nil_append]
      rw [F20_eq (by simpa [msB] using h),Option.bind_some]
      show (zgv N (msB m)).bind _=_
      rw [F35_eq (by omega) (msB_byt hr.byt hm),if_neg (by omega)]
      rfl
    · refine .inr (.inl ⟨hm,by omega,?_⟩)
      have:(wr 0 [] (msC m)).1=3:=z11w _ _ (by simp) (by simp only [List.length_nil]; unfold msB at h; omega)
      rw [this]; rfl
  · refine .inr (.inr ⟨hm,?_⟩)
    have:mayM m=false:=by rw [Bool.eq_false_iff]; exact fun e=>hm ((z10d hr.byt).1 e)
    rw [this]; rfl
theorem z155 (s:Int):byt (four s):=four_byte s
theorem frame_byt {b:List Int} (hl:b.length≤1048576) (hb:byt b):byt (zbm b):=fun x hx=>by
  unfold zbm at hx
  rcases List.mem_append.1 hx with hx | hx
  · rcases List.mem_append.1 hx with hx | hx
    · exact pI_byt (n:=(b.length:Int)) ⟨by omega,by omega⟩ x hx
    · exact hb x hx
  · exact z155 _ x hx
end
end Go.Proofs.YtddpmkmgbdedlaaGreat
