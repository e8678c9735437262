/-
The rewriting rules of the operations, continued: parts, indices, comparisons, slices, appends, results.
-/
import Derived.Test.YtphjnagmlgmdfaaEvS
set_option linter.unusedVariables false
set_option linter.unusedSimpArgs false
namespace Go.Ev
open Go

section
variable {E : Env} {H : Nat → Ent} {t ty : TypeId} {d : TypeDesc} {s p i o off k n m : Nat} {z l cs : List AV} {x y : AV} {ls : List (List AV)} {tok : Tok} {K K' : IntKind} {a b : Int} {ob : Prop}

def fd2 (E : Env) (l : List AV) : Option Field → Option AV
  | some f => evPart E f.type l f.offset
  | none => none
def fd1 (E : Env) (k : Nat) (l : List AV) : Option TI → Option AV
  | some ⟨.struct fs, _, _, _⟩ => fd2 E l fs[k]?
  | _ => none
theorem u_field : evField E t (.agg l) k = fd1 E k l (E.ty t) := by
  simp only [evField, AV.cells?]
  cases E.ty t with
  | none => rfl
  | some i =>
    obtain ⟨d, s, p, z⟩ := i
    cases d <;> first | rfl | skip
    rename_i fs
    simp only [fd1]
    cases fs[k]? <;> rfl
theorem u_1 {fs : List Field} : fd1 E k l (some ⟨.struct (List.toArray fs), s, p, z⟩) = fd2 E l (fs[k]?) := by simp [fd1]
theorem u_2 {nm tg pk : String} {off bo : Nat} {em : Bool} : fd2 E l (some ⟨nm, ty, off, em, tg, pk, bo⟩) = evPart E ty l off := rfl

/-! indices -/
def ixA (n : Nat) (i : Int) : Option TI → AV → Option Res
  | some ei, .ptr id off => some ⟨.ptr id (off + i.toNat * ei.size), [], 0 ≤ i ∧ i < n⟩
  | some ei, .iptr cells off => some ⟨.iptr cells (off + i.toNat * ei.size), [], 0 ≤ i ∧ i < n⟩
  | _, _ => none
def ixS (i : Int) : Option TI → AV → Option Res
  | some ei, .sl sz elems _ => if sz = ei.size then some ⟨.iptr (elems.getD i.toNat []) 0, [], 0 ≤ i ∧ i < elems.length⟩ else none
  | some ei, .asl sz elems => if sz = ei.size then some ⟨.iptr (elems.getD i.toNat []) 0, [], 0 ≤ i ∧ i < elems.length⟩ else none
  | some ei, .bsl id off len sz => if sz = ei.size then some ⟨.ptr id (off + i.toNat * sz), [], 0 ≤ i ∧ i < len⟩ else none
  | _, _ => none
def ix1 (E : Env) (i : Int) : Option TI → AV → Option Res
  | some ⟨.array n e, _, _, _⟩, x => ixA n i (E.ty e) x
  | some ⟨.slice e, _, _, _⟩, x => ixS i (E.ty e) x
  | _, _ => none
theorem i_addr : evIndexAddr E t x (.v (.int K a)) = ix1 E a (E.ty t) x := by
  simp only [evIndexAddr]
  cases E.ty t with
  | none => rfl
  | some i =>
    obtain ⟨d, s, p, z⟩ := i
    cases d <;> first | rfl | skip
    all_goals (simp only [ix1]; cases E.ty _ <;> cases x <;> rfl)
theorem i_1a {e : TypeId} : ix1 E a (some ⟨.array n e, s, p, z⟩) x = ixA n a (E.ty e) x := rfl
theorem i_1s {e : TypeId} : ix1 E a (some ⟨.slice e, s, p, z⟩) x = ixS a (E.ty e) x := rfl
theorem i_Ap {id : Nat} : ixA n a (some ⟨d, s, p, z⟩) (.ptr id off) = some ⟨.ptr id (off + a.toNat * s), [], 0 ≤ a ∧ a < n⟩ := rfl
theorem i_Ai : ixA n a (some ⟨d, s, p, z⟩) (.iptr l off) = some ⟨.iptr l (off + a.toNat * s), [], 0 ≤ a ∧ a < n⟩ := rfl
theorem i_Ss : ixS a (some ⟨d, s, p, z⟩) (.sl s ls tok) = some ⟨.iptr (ls.getD a.toNat []) 0, [], 0 ≤ a ∧ a < ls.length⟩ := by simp [ixS]
theorem i_Sa : ixS a (some ⟨d, s, p, z⟩) (.asl s ls) = some ⟨.iptr (ls.getD a.toNat []) 0, [], 0 ≤ a ∧ a < ls.length⟩ := by simp [ixS]
theorem i_Sb {id len : Nat} : ixS a (some ⟨d, s, p, z⟩) (.bsl id off len s) = some ⟨.ptr id (off + a.toNat * s), [], 0 ≤ a ∧ a < len⟩ := by simp [ixS]
def iv2 (ob : Prop) : Option AV → Option Res
  | some r => some ⟨r, [], ob⟩
  | none => none
def iv1 (E : Env) (n : Nat) (i : Int) (l : List AV) (e : TypeId) : Option TI → Option Res
  | some ei => iv2 (0 ≤ i ∧ i < n) (evPart E e l (i.toNat * ei.size))
  | none => none
def iv0 (E : Env) (i : Int) (l : List AV) : Option TI → Option Res
  | some ⟨.array n e, _, _, _⟩ => iv1 E n i l e (E.ty e)
  | _ => none
theorem i_val : evIndex E t (.agg l) (.v (.int K a)) = iv0 E a l (E.ty t) := by
  simp only [evIndex]
  cases E.ty t with
  | none => rfl
  | some i =>
    obtain ⟨d, s, p, z⟩ := i
    cases d <;> first | rfl | skip
    rename_i n e
    simp only [iv0]
    cases E.ty e with
    | none => rfl
    | some ei => simp only [Option.map_some, Option.getD_some, iv1, iv2]; cases evPart E e l _ <;> rfl
theorem i_0 {e : TypeId} : iv0 E a l (some ⟨.array n e, s, p, z⟩) = iv1 E n a l e (E.ty e) := rfl
theorem i_1 {e : TypeId} : iv1 E n a l e (some ⟨d, s, p, z⟩) = iv2 (0 ≤ a ∧ a < n) (evPart E e l (a.toNat * s)) := rfl
theorem i_2 : iv2 ob (some x) = some ⟨x, [], ob⟩ := rfl
def is0 (s : ByteArray) (i : Int) : Option TI → Option Res
  | some ⟨.string, _, _, _⟩ => some ⟨.v (.int .u8 (s.data.toList.getD i.toNat 0).toNat), [], 0 ≤ i ∧ i < s.data.toList.length⟩
  | _ => none
theorem i_str {str : ByteArray} : evIndex E t (.v (.string str)) (.v (.int K a)) = is0 str a (E.ty t) := by
  simp only [evIndex]
  cases E.ty t with
  | none => rfl
  | some i =>
    obtain ⟨d, s, p, z⟩ := i
    cases d <;> rfl
theorem i_s0 {str : ByteArray} : is0 str a (some ⟨.string, s, p, z⟩) = some ⟨.v (.int .u8 (str.data.toList.getD a.toNat 0).toNat), [], 0 ≤ a ∧ a < str.data.toList.length⟩ := rfl

/-! comparisons and arithmetic -/
theorem b_add : evBin E .add t (.v (.int K a)) (.v (.int K b)) = some ⟨.v (.int K (K.wrap (a + b))), [], True⟩ := by simp [evBin, binV]
theorem b_sub : evBin E .sub t (.v (.int K a)) (.v (.int K b)) = some ⟨.v (.int K (K.wrap (a - b))), [], True⟩ := by simp [evBin, binV]
theorem b_mul : evBin E .mul t (.v (.int K a)) (.v (.int K b)) = some ⟨.v (.int K (K.wrap (a * b))), [], True⟩ := by simp [evBin, binV]
theorem b_quo : evBin E .quo t (.v (.int K a)) (.v (.int K b)) = some ⟨.v (.int K (K.wrap (a.tdiv b))), [], b ≠ 0⟩ := by simp [evBin, binV]
theorem b_rem : evBin E .rem t (.v (.int K a)) (.v (.int K b)) = some ⟨.v (.int K (a.tmod b)), [], b ≠ 0⟩ := by simp [evBin, binV]
theorem b_and : evBin E .and t (.v (.int K a)) (.v (.int K b)) = some ⟨.v (.int K (bits .and K a b)), [], True⟩ := by simp [evBin, binV]
theorem b_or : evBin E .or t (.v (.int K a)) (.v (.int K b)) = some ⟨.v (.int K (bits .or K a b)), [], True⟩ := by simp [evBin, binV]
theorem b_xor : evBin E .xor t (.v (.int K a)) (.v (.int K b)) = some ⟨.v (.int K (bits .xor K a b)), [], True⟩ := by simp [evBin, binV]
theorem b_andNot : evBin E .andNot t (.v (.int K a)) (.v (.int K b)) = some ⟨.v (.int K (bits .andNot K a b)), [], True⟩ := by simp [evBin, binV]
theorem b_shl : evBin E .shl t (.v (.int K a)) (.v (.int K' b)) = some ⟨.v (.int K (shl K a b)), [], 0 ≤ b⟩ := by simp [evBin, binV]
theorem b_shr : evBin E .shr t (.v (.int K a)) (.v (.int K' b)) = some ⟨.v (.int K (shr K a b)), [], 0 ≤ b⟩ := by simp [evBin, binV]
theorem b_eql : evBin E .eql t (.v (.int K a)) (.v (.int K b)) = some ⟨.v (.bool (decide (a = b))), [], True⟩ := by simp [evBin, binV]; rfl
theorem b_neq : evBin E .neq t (.v (.int K a)) (.v (.int K b)) = some ⟨.v (.bool !(decide (a = b))), [], True⟩ := by simp [evBin, binV]; rfl
theorem b_lss : evBin E .lss t (.v (.int K a)) (.v (.int K b)) = some ⟨.v (.bool (decide (a < b))), [], True⟩ := by simp [evBin, binV]
theorem b_leq : evBin E .leq t (.v (.int K a)) (.v (.int K b)) = some ⟨.v (.bool (decide (a ≤ b))), [], True⟩ := by simp [evBin, binV]
theorem b_gtr : evBin E .gtr t (.v (.int K a)) (.v (.int K b)) = some ⟨.v (.bool (decide (b < a))), [], True⟩ := by simp [evBin, binV]
theorem b_geq : evBin E .geq t (.v (.int K a)) (.v (.int K b)) = some ⟨.v (.bool (decide (b ≤ a))), [], True⟩ := by simp [evBin, binV]
variable {u w : ByteArray}
theorem b_seq : evBin E .eql t (.v (.string u)) (.v (.string w)) = some ⟨.v (.bool (u.data.toList == w.data.toList)), [], True⟩ := by simp [evBin, binV]
theorem b_sne : evBin E .neq t (.v (.string u)) (.v (.string w)) = some ⟨.v (.bool !(u.data.toList == w.data.toList)), [], True⟩ := by simp [evBin, binV]
def eR (neg : Bool) : Option Bool → Option Res
  | some b => some ⟨.v (.bool (bif neg then !b else b)), [], True⟩
  | none => none
theorem b_rE {b : Bool} : eR false (some b) = some ⟨.v (.bool b), [], True⟩ := rfl
theorem b_rN {b : Bool} : eR true (some b) = some ⟨.v (.bool !b), [], True⟩ := rfl
theorem eE {x y : AV} (h : ∀ k a k' b, x = .v (.int k a) → y = .v (.int k' b) → False) (h' : ∀ a b, x = .v (.string a) → y = .v (.string b) → False) : evBin E .eql t x y = eR false (evEq E t x y) := by
  unfold evBin
  split
  · exact (h _ _ _ _ rfl rfl).elim
  · exact (h' _ _ rfl rfl).elim
  · simp only []; cases evEq E t x y <;> rfl
theorem eN {x y : AV} (h : ∀ k a k' b, x = .v (.int k a) → y = .v (.int k' b) → False) (h' : ∀ a b, x = .v (.string a) → y = .v (.string b) → False) : evBin E .neq t x y = eR true (evEq E t x y) := by
  unfold evBin
  split
  · exact (h _ _ _ _ rfl rfl).elim
  · exact (h' _ _ rfl rfl).elim
  · simp only []; cases evEq E t x y <;> rfl
variable {q q' : Bool} {ls' : List AV} {c c' : Array Value}
theorem b_eB : evBin E .eql t (.v (.bool q)) (.v (.bool q')) = eR false (evEq E t (.v (.bool q)) (.v (.bool q'))) := eE (by simp) (by simp)
theorem b_nB : evBin E .neq t (.v (.bool q)) (.v (.bool q')) = eR true (evEq E t (.v (.bool q)) (.v (.bool q'))) := eN (by simp) (by simp)
theorem b_eA : evBin E .eql t (.agg l) y = eR false (evEq E t (.agg l) y) := eE (by simp) (by simp)
theorem b_nA : evBin E .neq t (.agg l) y = eR true (evEq E t (.agg l) y) := eN (by simp) (by simp)
theorem b_eP : evBin E .eql t (.ptr i o) y = eR false (evEq E t (.ptr i o) y) := eE (by simp) (by simp)
theorem b_nP : evBin E .neq t (.ptr i o) y = eR true (evEq E t (.ptr i o) y) := eN (by simp) (by simp)
theorem b_eI : evBin E .eql t (.iptr l o) y = eR false (evEq E t (.iptr l o) y) := eE (by simp) (by simp)
theorem b_nI : evBin E .neq t (.iptr l o) y = eR true (evEq E t (.iptr l o) y) := eN (by simp) (by simp)
theorem b_eS : evBin E .eql t (.sl s ls tok) y = eR false (evEq E t (.sl s ls tok) y) := eE (by simp) (by simp)
theorem b_nS : evBin E .neq t (.sl s ls tok) y = eR true (evEq E t (.sl s ls tok) y) := eN (by simp) (by simp)
theorem b_eF {f : FuncId} : evBin E .eql t (.fn f l) y = eR false (evEq E t (.fn f l) y) := eE (by simp) (by simp)
theorem b_nF {f : FuncId} : evBin E .neq t (.fn f l) y = eR true (evEq E t (.fn f l) y) := eN (by simp) (by simp)
theorem b_eZ {v : Option Addr} : evBin E .eql t (.v (.pointer v)) y = eR false (evEq E t (.v (.pointer v)) y) := eE (by simp) (by simp)
theorem b_nZ {v : Option Addr} : evBin E .neq t (.v (.pointer v)) y = eR true (evEq E t (.v (.pointer v)) y) := eN (by simp) (by simp)
theorem b_eY {v : Option Addr} {c d : Nat} : evBin E .eql t (.v (.slice v c d)) y = eR false (evEq E t (.v (.slice v c d)) y) := eE (by simp) (by simp)
theorem b_nY {v : Option Addr} {c d : Nat} : evBin E .neq t (.v (.slice v c d)) y = eR true (evEq E t (.v (.slice v c d)) y) := eN (by simp) (by simp)
theorem b_eX : evBin E .eql t (.v .nilFunc) y = eR false (evEq E t (.v .nilFunc) y) := eE (by simp) (by simp)
theorem b_nX : evBin E .neq t (.v .nilFunc) y = eR true (evEq E t (.v .nilFunc) y) := eN (by simp) (by simp)
def eqA (E : Env) (t : TypeId) (l l' : List AV) : Option (List Kd) → Option Bool
  | some ks => eqCells ks l l'
  | none => evEq E t (.agg l) (.agg l')
theorem v_agg : evEq E t (.agg l) (.agg ls') = eqA E t l ls' (E.eqk t) := by
  cases h : E.eqk t with
  | none => simp only [eqA]
  | some ks => simp only [evEq, eqA, AV.cells?, h]
theorem v_A {ks : List Kd} : eqA E t l ls' (some ks) = eqCells ks l ls' := rfl
def eqJ (b : Bool) : Option Bool → Option Bool
  | some b' => some (b && b')
  | none => none
theorem v_0 : eqCells [] [] [] = some true := rfl
theorem v_i {ks : List Kd} : eqCells (.i :: ks) (.v (.int K a) :: l) (.v (.int K b) :: ls') = eqJ (decide (a = b)) (eqCells ks l ls') := by
  simp only [eqCells, scal, if_true]; cases eqCells ks l ls' <;> rfl
theorem v_b {ks : List Kd} : eqCells (.b :: ks) (.v (.bool q) :: l) (.v (.bool q') :: ls') = eqJ (q == q') (eqCells ks l ls') := by
  simp only [eqCells, scal]; cases eqCells ks l ls' <;> rfl
theorem v_s {ks : List Kd} : eqCells (.s :: ks) (.v (.string u) :: l) (.v (.string w) :: ls') = eqJ (u.data.toList == w.data.toList) (eqCells ks l ls') := by
  simp only [eqCells, scal]; cases eqCells ks l ls' <;> rfl
theorem v_J : eqJ q (some q') = some (q && q') := rfl

/-! results -/
def rO : Option (List AV) → Option AV
  | some [v] => some v
  | some vs => some (.tup vs)
  | none => none
def rJ : Option AV → Option (List AV) → Option (List AV)
  | some v, some vs => some (v :: vs)
  | _, _ => none
variable {st : St} {rs : List ResultVar} {L : List Ent} {v v' v'' : AV} {vs : List AV}
theorem z_ret : FinQ E rs x L .ret st = (resOf E rs st = some x ∧ EntLes L.length st.h L) := rfl
theorem z_norm : FinQ E rs x L .normal st = (resOf E rs st = some x ∧ EntLes L.length st.h L) := rfl
theorem z_res : resOf E rs st = rO (resAll E st rs) := by unfold resOf rO; rfl
theorem z_0 : resAll E st [] = some [] := rfl
theorem z_S {r : ResultVar} : resAll E st (r :: rs) = rJ (resOne E st r) (resAll E st rs) := rfl
theorem z_t {T : List AV} {H : List Ent} : resOne E ⟨T, H⟩ (.tmp k) = some (nth T k) := rfl
theorem z_c {T : List AV} {H : List Ent} : resOne E ⟨T, H⟩ (.cell k t) = evLoad E (hget H) t (nth T k) := rfl
theorem z_J : rJ (some v) (some vs) = some (v :: vs) := rfl
theorem z_O0 : rO (some []) = some (.tup []) := rfl
theorem z_O1 : rO (some [v]) = some v := rfl
theorem z_O2 : rO (some (v :: v' :: vs)) = some (.tup (v :: v' :: vs)) := rfl
theorem z_ent {L : List Ent} {k : Nat} : EntLes k L [] = True := by
  simp only [EntLes]
theorem z_entry {k : Nat} {args : List AV} {L : List Ent} : entry k args L = ⟨args ++ List.replicate (k - args.length) (.v undef), L⟩ := rfl
end
end Go.Ev
