/-
Plain laws of another seat,turned to this one by wip/tools/ren2.py.
-/
import Derived.Test.YteinehkdjkobnaaGreatqFw
import Derived.Test.YteinehkdjkobnaaGreatqTvT
import Derived.Test.YteinehkdjkobnaaGreatqWr
import Derived.KernelRfl
set_option linter.unusedVariables false
set_option linter.unusedSimpArgs false
namespace Go.Proofs.YteinehkdjkobnaaGreat
open Go Go.Ev
def sta (e : z7) (i : Nat) : Int := vget e.States i default
def sea (e : z7) (i : Nat) : Int := vget e.Seals i default
def spo (e : z7) (i : Nat) : Int := vget e.Sponsor i default
def okP (e : z7) (i : Nat) : Prop :=
  0 ≤ sta e i ∧ sta e i ≤ 3 ∧ 0 ≤ sea e i ∧ sea e i ≤ 1099511627776 ∧ (sta e i = 3 ∨ sea e i = 0) ∧ ((sta e i = 0 ∧ spo e i = -1) ∨ (sta e i ≠ 0 ∧ -1 ≤ spo e i ∧ spo e i < 8 ∧ spo e i ≠ i))
instance (e : z7) (i : Nat) : Decidable (okP e i) := by unfold okP; exact inferInstance
def okS (e : z7) (i : Nat) : Bool := decide (okP e i)
def mem1 (e : z7) (i : Nat) : Bool := sta e i == 1
def chk (e : z7) : Bool := decide (0 ≤ e.Number) && decide (e.Number < 1024) && (List.range 8).all (okS e) && (List.range 8).any (mem1 e)
def z0 : z7 := ⟨0,Vector.replicate 8 (default : Int),Vector.replicate 8 (default : Int),Vector.replicate 8 (default : Int)⟩
def lone (e : z7) (s : Nat) : Bool := (List.range 8).all fun j => j == s || !(mem1 e j)
def app' (e : z7) (kind site sponsor length : Int) : z7 × Int :=
  if chk e = false ∨ (kind ≠ 6 ∧ kind ≠ 7 ∧ kind ≠ 8) ∨ ¬ (0 ≤ site ∧ site < 8) then (z0,1)
  else if 1023 ≤ e.Number then (z0,3)
  else if kind = 6 then
    if sta e site.toNat ≠ 0 then (z0,171)
    else if ¬ (0 ≤ sponsor ∧ sponsor < 8) then (z0,1)
    else if sta e sponsor.toNat ≠ 1 then (z0,171)
    else (⟨e.Number + 1,vset e.States site.toNat 1,e.Seals,vset e.Sponsor site.toNat sponsor⟩,0)
  else if kind = 7 then
    if sta e site.toNat ≠ 1 then (z0,171)
    else if lone e site.toNat = true then (z0,170)
    else (⟨e.Number + 1,vset e.States site.toNat 2,e.Seals,e.Sponsor⟩,0)
  else if sta e site.toNat ≠ 2 then (z0,171)
  else if length < 0 ∨ 1099511627776 < length then (z0,1)
  else (⟨e.Number + 1,vset e.States site.toNat 3,vset e.Seals site.toNat length,e.Sponsor⟩,0)
def app (e : z7) (x : z6) : z7 × Int := app' e x.Kind x.Site x.Sponsor x.Length
def eqE (a b : z7) : Bool := (a.Number == b.Number) && ((vbeq beq3 a.States b.States) && ((vbeq beq2 a.Seals b.Seals) && (vbeq beq3 a.Sponsor b.Sponsor)))
def spon3 (b : z7) (i k : Nat) : Int := if k = 0 then spo b i else 0
def leng3 (b : z7) (i k : Nat) : Int := if k = 2 then sea b i else 0
def ent3 (b : z7) (i k : Nat) : z6 :=
  ⟨(k : Int) + 6,0,0,(⟨(⟨0,0⟩ : zj),0,0,0,[],[],[]⟩ : GOp),0,0,[],z0,0,Vector.replicate 8 (default : Int),0,(⟨0,0,0,[]⟩ : GPart),i,spon3 b i k,leng3 b i k⟩
def hit (a b : z7) (i k : Nat) : Bool := ((app a (ent3 b i k)).2 == 0) && eqE (app a (ent3 b i k)).1 b
def hits (a b : z7) (i : Nat) : Bool := (List.range 3).any (hit a b i)
def rd1 (s : Int × List Int) : Int × (Int × List Int) := if s.1 = 0 then ((rI s.2).1,((rI s.2).2.1,(rI s.2).2.2)) else (0,s)
def rdv (g : Int → Int) (v0 : Vector Int 8) (s : Int × List Int) : Nat → (Int × List Int) × Vector Int 8
  | 0 => (s,v0)
  | k + 1 => ((rd1 (rdv g v0 s k).1).2,vset (rdv g v0 s k).2 k (g (rd1 (rdv g v0 s k).1).1))
section
variable {N : Nat} {B : List Int} {s : Int × List Int}
def okB (B : List Int) : Prop := B.length ≤ 70368744177664 ∧ ∀ x ∈ B,byteR x
end
section
variable {N : Nat} {B : List Int} {s : Int × List Int}
end
section
variable {N : Nat} {B : List Int} {s : Int × List Int}
attribute [local irreducible] rdv
end
section
variable {N : Nat} {w : List Int}
end
end Go.Proofs.YteinehkdjkobnaaGreat
