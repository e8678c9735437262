/-
Plain laws of another seat,turned to this one by wip/tools/ren2.py.
-/
import Derived.Test.YteinehkdjkobnaaGreatqFw
import Derived.Test.YteinehkdjkobnaaGreatqTvT
import Derived.Test.YteinehkdjkobnaaGreatqWr
import Derived.KernelRfl
set_option linter.unusedVariables false
set_option linter.unusedSimpArgs false
namespace Go.Proofs.YteinehkdjkobnaaGreat
open Go Go.Ev
def sta (e : z7) (i : Nat) : Int := vget e.States i default
def sea (e : z7) (i : Nat) : Int := vget e.Seals i default
def spo (e : z7) (i : Nat) : Int := vget e.Sponsor i default
def okP (e : z7) (i : Nat) : Prop :=
  0 ≤ sta e i ∧ sta e i ≤ 3 ∧ 0 ≤ sea e i ∧ sea e i ≤ 1099511627776 ∧ (sta e i = 3 ∨ sea e i = 0) ∧ ((sta e i = 0 ∧ spo e i = -1) ∨ (sta e i ≠ 0 ∧ -1 ≤ spo e i ∧ spo e i < 8 ∧ spo e i ≠ i))
instance (e : z7) (i : Nat) : Decidable (okP e i) := by unfold okP; exact inferInstance
def okS (e : z7) (i : Nat) : Bool := decide (okP e i)
def mem1 (e : z7) (i : Nat) : Bool := sta e i == 1
def chk (e : z7) : Bool := decide (0 ≤ e.Number) && decide (e.Number < 1024) && (List.range 8).all (okS e) && (List.range 8).any (mem1 e)
theorem zng {n : Nat} {α : Type} (last : Option α) : ((List.range n).findSome? (fun _ => (none : Option (Option α)))).getD last = last := by
  induction (List.range n) with
  | nil => rfl
  | cons x l ih => rw [List.findSome?_cons]; exact ih
theorem zg4 {k : Nat} (h : k < 8) : decide ((k : Int) < 8) = true := by simp; omega
def z0 : z7 := ⟨0,Vector.replicate 8 (default : Int),Vector.replicate 8 (default : Int),Vector.replicate 8 (default : Int)⟩
def lone (e : z7) (s : Nat) : Bool := (List.range 8).all fun j => j == s || !(mem1 e j)
def app' (e : z7) (kind site sponsor length : Int) : z7 × Int :=
  if chk e = false ∨ (kind ≠ 6 ∧ kind ≠ 7 ∧ kind ≠ 8) ∨ ¬ (0 ≤ site ∧ site < 8) then (z0,1)
  else if 1023 ≤ e.Number then (z0,3)
  else if kind = 6 then
    if sta e site.toNat ≠ 0 then (z0,171)
    else if ¬ (0 ≤ sponsor ∧ sponsor < 8) then (z0,1)
    else if sta e sponsor.toNat ≠ 1 then (z0,171)
    else (⟨e.Number + 1,vset e.States site.toNat 1,e.Seals,vset e.Sponsor site.toNat sponsor⟩,0)
  else if kind = 7 then
    if sta e site.toNat ≠ 1 then (z0,171)
    else if lone e site.toNat = true then (z0,170)
    else (⟨e.Number + 1,vset e.States site.toNat 2,e.Seals,e.Sponsor⟩,0)
  else if sta e site.toNat ≠ 2 then (z0,171)
  else if length < 0 ∨ 1099511627776 < length then (z0,1)
  else (⟨e.Number + 1,vset e.States site.toNat 3,vset e.Seals site.toNat length,e.Sponsor⟩,0)
def app (e : z7) (x : z6) : z7 × Int := app' e x.Kind x.Site x.Sponsor x.Length
def eqE (a b : z7) : Bool := (a.Number == b.Number) && ((vbeq beq3 a.States b.States) && ((vbeq beq2 a.Seals b.Seals) && (vbeq beq3 a.Sponsor b.Sponsor)))
def spon3 (b : z7) (i k : Nat) : Int := if k = 0 then spo b i else 0
def leng3 (b : z7) (i k : Nat) : Int := if k = 2 then sea b i else 0
def ent3 (b : z7) (i k : Nat) : z6 :=
  ⟨(k : Int) + 6,0,0,(⟨(⟨0,0⟩ : zm),0,0,0,[],[],[]⟩ : GOp),0,0,[],z0,0,Vector.replicate 8 (default : Int),0,(⟨0,0,0,[]⟩ : GPart),i,spon3 b i k,leng3 b i k⟩
def hit (a b : z7) (i k : Nat) : Bool := ((app a (ent3 b i k)).2 == 0) && eqE (app a (ent3 b i k)).1 b
def hits (a b : z7) (i : Nat) : Bool := (List.range 3).any (hit a b i)
def rd1 (s : Int × List Int) : Int × (Int × List Int) := if s.1 = 0 then ((rI s.2).1,((rI s.2).2.1,(rI s.2).2.2)) else (0,s)
def rdv (g : Int → Int) (v0 : Vector Int 8) (s : Int × List Int) : Nat → (Int × List Int) × Vector Int 8
  | 0 => (s,v0)
  | k + 1 => ((rd1 (rdv g v0 s k).1).2,vset (rdv g v0 s k).2 k (g (rd1 (rdv g v0 s k).1).1))
def okR (B : List Int) (s : Int × List Int) : Prop := s.2 <:+ B
def z8 : Vector Int 8 := Vector.replicate 8 (default : Int)
def rdE (g : Int → Int) (s : Int × List Int) : z7 × (Int × List Int) :=
  (⟨(rd1 s).1,(rdv g z8 (rd1 s).2 8).2,(rdv id z8 (rdv g z8 (rd1 s).2 8).1 8).2,(rdv g z8 (rdv id z8 (rdv g z8 (rd1 s).2 8).1 8).1 8).2⟩,
    (rdv g z8 (rdv id z8 (rdv g z8 (rd1 s).2 8).1 8).1 8).1)
def sm (n : Int) : Int := if n = IntKind.i64.wrap (IntKind.i32.wrap n) then n else -2
theorem zr {B : List Int} {s : Int × List Int} (h : okR B s) : okR B (rd1 s).2 := by
  unfold rd1
  split
  · exact (rI_suffix s.2).trans h
  · exact h
theorem zbk {B : List Int} {s : Int × List Int} (h : okR B s) (g : Int → Int) (v0 : Vector Int 8) : ∀ k,okR B (rdv g v0 s k).1
  | 0 => h
  | k + 1 => zr (zbk h g v0 k)
theorem z112 (g g' : Int → Int) (v v' : Vector Int 8) (s : Int × List Int) : ∀ k,(rdv g v s k).1 = (rdv g' v' s k).1
  | 0 => rfl
  | k + 1 => by simp only [rdv,z112 g g' v v' s k]
theorem zg5 (g : Int → Int) (v : Vector Int 8) (s : Int × List Int) : ∀ k,k ≤ 8 → ∀ j,j < 8 → vget (rdv g v s k).2 j default = if j < k then g (rd1 (rdv id z8 s j).1).1 else vget v j default
  | 0,_,j,_ => by simp [rdv]
  | k + 1,hk,j,hj => by
    simp only [rdv]
    rw [vget_set _ _ _ hj,zg5 g v s k (by omega) j hj]
    by_cases h : k = j
    · subst h; rw [if_pos rfl,if_pos (by omega),z112 g id v z8 s k]
    · rw [if_neg h]
      by_cases h' : j < k
      · rw [if_pos h',if_pos (by omega)]
      · rw [if_neg h',if_neg (by omega)]
section
variable {N : Nat} {B : List Int} {s : Int × List Int}
def okB (B : List Int) : Prop := B.length ≤ 70368744177664 ∧ ∀ x ∈ B,byteR x
theorem zj8 (hB : okB B) (h : okR B s) : s.2.length ≤ 70368744177664 ∧ ∀ x ∈ s.2,byteR x := suffix_ok h hB.1 hB.2
theorem z74 (hN : 11 ≤ N) (hB : okB B) (h : okR B s) : ze N s.1 ⟨true,s.2⟩ = some ((rd1 s).1,(rd1 s).2.1,⟨true,(rd1 s).2.2⟩) := by
  unfold ze rd1
  by_cases he : s.1 = 0
  · have : (s.1 == 0) = true := by simpa using he
    rw [this,if_pos he,F22_eq hN (zj8 hB h).1 (zj8 hB h).2]
    simp only [Bool.not_true,cond_false,Option.bind_some]
    unfold z1d
    rw [this]; rfl
  · have : (s.1 == 0) = false := by simpa using he
    rw [this,if_neg he]; rfl
theorem z3d (hN : 11 ≤ N) (hB : okB B) (h : okR B s) : zf N s.1 ⟨true,s.2⟩ = some (sm (rd1 s).1,(rd1 s).2.1,⟨true,(rd1 s).2.2⟩) := by
  unfold zf sm
  rw [z74 hN hB h,Option.bind_some]
  by_cases hx : (rd1 s).1 = IntKind.i64.wrap (IntKind.i32.wrap (rd1 s).1)
  · rw [if_pos hx,show ((rd1 s).1 == IntKind.i64.wrap (IntKind.i32.wrap (rd1 s).1)) = true by simpa using hx]; rfl
  · rw [if_neg hx,show ((rd1 s).1 == IntKind.i64.wrap (IntKind.i32.wrap (rd1 s).1)) = false by simpa using hx]; rfl
theorem vector_eq (hN : 11 ≤ N) (hB : okB B) (h : okR B s) (a : Int) (b v d : Vector Int 8) : z4d N s.1 ⟨a,b,v,d⟩ ⟨true,s.2⟩ =
    some ((rdv id v s 8).1.1,⟨a,b,(rdv id v s 8).2,d⟩,⟨true,(rdv id v s 8).1.2⟩) := by
  unfold z4d
  rw [show (⟨0,s.1,⟨a,b,v,d⟩,⟨true,s.2⟩⟩ : z1n) = (fun k : Nat => (⟨(k : Int),(rdv id v s k).1.1,⟨a,b,(rdv id v s k).2,d⟩,⟨true,(rdv id v s k).1.2⟩⟩ : z1n)) 0 from rfl]
  rw [znc (fun k : Nat => (⟨(k : Int),(rdv id v s k).1.1,⟨a,b,(rdv id v s k).2,d⟩,⟨true,(rdv id v s k).1.2⟩⟩ : z1n)) 8 (fun _ => none) (some ((rdv id v s 8).1.1,⟨a,b,(rdv id v s 8).2,d⟩,⟨true,(rdv id v s 8).1.2⟩)) ?_ ?_ N (by omega)]
  · exact zng _
  · intro k next hk
    simp only [zg4 hk,z56 (show (0 : Int) ≤ k by omega) (show (k : Int) < 8 by omega),cond_true]
    rw [z74 hN hB (zbk h id v k),Option.bind_some,z2p (by omega) (by omega),Int.toNat_natCast]
    rfl
  · intro next; rfl
theorem z136 (hN : 11 ≤ N) (hB : okB B) (h : okR B s) : z28 N s.1 ⟨true,s.2⟩ = some ((rdE sm s).1,(rdE sm s).2.1,⟨true,(rdE sm s).2.2⟩) := by
  unfold z28 z8p
  rw [z74 hN hB h]
  simp only [Option.bind_some]
  have h1 := zr h
  unfold rdE
  generalize (rd1 s).1 = a at *
  generalize hs1 : (rd1 s).2 = s1 at *
  rw [show (⟨0,s1.1,⟨true,s1.2⟩,⟨a,Vector.replicate 8 default,Vector.replicate 8 default,Vector.replicate 8 default⟩⟩ : z1t) = (fun k : Nat => (⟨(k : Int),(rdv sm z8 s1 k).1.1,⟨true,(rdv sm z8 s1 k).1.2⟩,⟨a,(rdv sm z8 s1 k).2,z8,z8⟩⟩ : z1t)) 0 from rfl]
  rw [znc (fun k : Nat => (⟨(k : Int),(rdv sm z8 s1 k).1.1,⟨true,(rdv sm z8 s1 k).1.2⟩,⟨a,(rdv sm z8 s1 k).2,z8,z8⟩⟩ : z1t)) 8 (fun _ => none) _ ?_ ?_ N (by omega)]
  · exact zng _
  · intro k next hk
    simp only [zg4 hk,z56 (show (0 : Int) ≤ k by omega) (show (k : Int) < 8 by omega),cond_true]
    rw [z3d hN hB (zbk h1 sm z8 k),Option.bind_some,z2p (by omega) (by omega),Int.toNat_natCast]
    rfl
  · intro next
    have h2 := zbk h1 sm z8 8
    generalize rdv sm z8 s1 8 = p at *
    obtain ⟨s2,v1⟩ := p
    simp only at h2 ⊢
    rw [show decide (((8 : Nat) : Int) < 8) = false from rfl,cond_false,vector_eq hN hB h2,Option.bind_some]
    have h3 := zbk h2 id z8 8
    generalize rdv id z8 s2 8 = p at *
    obtain ⟨s3,v2⟩ := p
    simp only at h3 ⊢
    rw [show (⟨0,s3.1,⟨true,s3.2⟩,⟨a,v1,v2,z8⟩⟩ : z1o) = (fun k : Nat => (⟨(k : Int),(rdv sm z8 s3 k).1.1,⟨true,(rdv sm z8 s3 k).1.2⟩,⟨a,v1,v2,(rdv sm z8 s3 k).2⟩⟩ : z1o)) 0 from rfl]
    rw [znc (fun k : Nat => (⟨(k : Int),(rdv sm z8 s3 k).1.1,⟨true,(rdv sm z8 s3 k).1.2⟩,⟨a,v1,v2,(rdv sm z8 s3 k).2⟩⟩ : z1o)) 8 (fun _ => none) (some ((⟨a,v1,v2,(rdv sm z8 s3 8).2⟩ : z7),(rdv sm z8 s3 8).1.1,⟨true,(rdv sm z8 s3 8).1.2⟩)) ?_ ?_ N (by omega)]
    · exact zng _
    · intro k next hk
      simp only [zg4 hk,z56 (show (0 : Int) ≤ k by omega) (show (k : Int) < 8 by omega),cond_true]
      rw [z3d hN hB (zbk h3 sm z8 k),Option.bind_some,z2p (by omega) (by omega),Int.toNat_natCast]
      rfl
    · intro next; rfl
end
section
variable {N : Nat} {B : List Int} {s : Int × List Int}
end
theorem rdv_id {g : Int → Int} (hg : ∀ n,-1 ≤ g n ∧ g n ≤ 7 → g n = n) {s : Int × List Int} (h : ∀ j,j < 8 → -1 ≤ vget (rdv g z8 s 8).2 j default ∧ vget (rdv g z8 s 8).2 j default ≤ 7) : rdv g z8 s 8 = rdv id z8 s 8 := by
  refine Prod.ext (z112 _ _ _ _ _ _) (vext default fun j hj => ?_)
  have := h j hj
  rw [zg5 g z8 s 8 (Nat.le_refl _) j hj,if_pos hj] at this ⊢
  rw [zg5 id z8 s 8 (Nat.le_refl _) j hj,if_pos hj]
  exact hg _ this
section
variable {N : Nat} {B : List Int} {s : Int × List Int}
theorem z26 (hB : okB B) (h : okR B s) (he : (rd1 s).2.1 = 0) : s.1 = 0 ∧ s.2 = pI (rd1 s).1 ++ (rd1 s).2.2 := by
  unfold rd1 at he ⊢
  by_cases h0 : s.1 = 0
  · rw [if_pos h0] at he ⊢
    exact ⟨h0,(rI_one (zj8 hB h).2 he).1⟩
  · rw [if_neg h0] at he; exact absurd he h0
def rdl (s : Int × List Int) (k : Nat) : List Int := ((List.range k).map fun j => pI (rd1 (rdv id z8 s j).1).1).flatten
theorem rdl_succ (s : Int × List Int) (k : Nat) : rdl s (k + 1) = rdl s k ++ pI (rd1 (rdv id z8 s k).1).1 := by
  simp [rdl,List.range_succ]
theorem zvn (hB : okB B) (h : okR B s) : ∀ k,(rdv id z8 s k).1.1 = 0 → s.1 = 0 ∧ s.2 = rdl s k ++ (rdv id z8 s k).1.2
  | 0,he => ⟨he,rfl⟩
  | k + 1,he => by
    simp only [rdv] at he ⊢
    obtain ⟨h1,h2⟩ := z26 hB (zbk h id z8 k) he
    obtain ⟨h3,h4⟩ := zvn hB h k h1
    refine ⟨h3,?_⟩
    rw [rdl_succ,List.append_assoc,← h2,← h4]
theorem toL8 (v : Vector Int 8) : v.toList = (List.range 8).map fun j => vget v j default := by
  refine List.ext_getElem (by simp) fun i h1 h2 => ?_
  have hi : i < 8 := by simpa using h1
  simp only [Vector.getElem_toList,List.getElem_map,List.getElem_range]
  exact (vgetE v _ hi).symm
attribute [local irreducible] rdv
theorem rdl_8 (s : Int × List Int) : rdl s 8 = ((rdv id z8 s 8).2.toList.map pI).flatten := by
  rw [toL8]
  unfold rdl
  rw [List.map_map]
  refine congrArg List.flatten (List.map_congr_left fun j hj => ?_)
  have hj8 : j < 8 := List.mem_range.1 hj
  simp only [Function.comp]
  rw [zg5 id z8 s 8 (Nat.le_refl _) j hj8,if_pos hj8]
  rfl
theorem rdE_one (hB : okB B) (h : okR B s) (he : (rdE id s).2.1 = 0) : s.1 = 0 ∧ s.2 = (epC (rdE id s).1).flatten ++ (rdE id s).2.2 := by
  unfold rdE at he ⊢
  simp only at he ⊢
  have k1 := zr h
  have k2 := zbk k1 id z8 8
  have k3 := zbk k2 id z8 8
  obtain ⟨a1,a2⟩ := zvn hB k3 8 he
  obtain ⟨b1,b2⟩ := zvn hB k2 8 a1
  obtain ⟨c1,c2⟩ := zvn hB k1 8 b1
  obtain ⟨d1,d2⟩ := z26 hB h c1
  refine ⟨d1,?_⟩
  rw [rdl_8] at a2 b2 c2
  unfold epC
  simp only [List.flatten_append,List.map_cons,List.map_nil,List.flatten_cons,List.flatten_nil,List.append_nil,List.append_assoc]
  rw [d2]
  congr 1
  refine c2.trans ?_
  congr 1
  refine b2.trans ?_
  congr 1
theorem z19 {n : Int} (hn : R64 n) (rest : List Int) : rd1 (0,pI n ++ rest) = (n,(0,rest)) := by
  unfold rd1 pI
  rw [if_pos rfl,rI_back hn]
theorem zz9 {l : List Int} (hl : ∀ n ∈ l,R64 n) (rest : List Int) : ∀ k,k ≤ l.length → (rdv id z8 (0,(l.map pI).flatten ++ rest) k).1 = (0,((l.drop k).map pI).flatten ++ rest)
  | 0,_ => by simp only [rdv,List.drop_zero]
  | k + 1,hk => by
    have hlt : k < l.length := by omega
    simp only [rdv]
    rw [zz9 hl rest k (by omega),List.drop_eq_getElem_cons hlt,List.map_cons,List.flatten_cons,List.append_assoc,z19 (hl _ (List.getElem_mem hlt))]
theorem zkm {v : Vector Int 8} (hv : ∀ n ∈ v.toList,R64 n) (rest : List Int) : rdv id z8 (0,(v.toList.map pI).flatten ++ rest) 8 = ((0,rest),v) := by
  have hlen : v.toList.length = 8 := by simp
  refine Prod.ext ?_ (vext default fun j hj => ?_)
  · rw [zz9 hv rest 8 (by omega),List.drop_eq_nil_of_le (by omega)]; simp
  · rw [zg5 id z8 _ 8 (Nat.le_refl _) j hj,if_pos hj,zz9 hv rest j (by omega),List.drop_eq_getElem_cons (by omega),List.map_cons,List.flatten_cons,List.append_assoc,z19 (hv _ (List.getElem_mem (by omega)))]
    simp only [id,Vector.getElem_toList]
    exact (vgetE v _ hj).symm
theorem rdE_back {e : z7} (h : MayEp e) (rest : List Int) : rdE id (0,(epC e).flatten ++ rest) = (e,(0,rest)) := by
  obtain ⟨h1,h2,h3⟩ := zvy h
  obtain ⟨a,b,c,d⟩ := e
  unfold epC rdE
  simp only [List.flatten_append,List.map_cons,List.map_nil,List.flatten_cons,List.flatten_nil,List.append_nil,List.append_assoc]
  rw [z19 (cnt64 h.1)]
  simp only
  rw [zkm h1]
  simp only
  rw [zkm h3]
  simp only
  rw [zkm h2]
theorem end_eq (N : Nat) (c : List Int) : z51 N ⟨true,c⟩ = some (if 0 < (c.length : Int) then 13 else 0,⟨true,c⟩) := by
  unfold z51 z2y
  simp only [Option.bind_some,Bool.not_true,cond_false]
  by_cases h : 0 < (c.length : Int)
  · rw [if_pos h,decide_eq_true h]; rfl
  · rw [if_neg h,decide_eq_false h]; rfl
end
section
variable {N : Nat} {w : List Int}
end
end Go.Proofs.YteinehkdjkobnaaGreat
