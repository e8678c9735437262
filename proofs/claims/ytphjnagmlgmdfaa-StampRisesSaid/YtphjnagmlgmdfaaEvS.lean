/-
The rewriting rules of the operations.
-/
import Derived.Test.YtphjnagmlgmdfaaEvR
set_option linter.unusedVariables false
set_option linter.unusedSimpArgs false
namespace Go.Ev
open Go

section
variable {E : Env} {H : Nat → Ent} {n : Nat} {val : Operand → AV} {st : St} {a b c x y : Operand} {t t' : TypeId} {k : Nat} {r : AV}

def resA : Option AV → Option Res
  | some r => some ⟨r, [], True⟩
  | none => none
theorem r_A : resA (some r) = some ⟨r, [], True⟩ := rfl
theorem r_An : resA none = none := rfl
theorem resA_eq (o : Option AV) : resA o = o.map fun r => { r := r } := by cases o <;> rfl

theorem e_move : evOp E H n (.move x) val = some ⟨(val x).strip, [], True⟩ := rfl
theorem e_assign : evOp E H n (.assign x) val = some ⟨(val x).strip, [], True⟩ := rfl

def pk2 (q : Bool) (o : Option AV) (a b : AV) : Option Res :=
  match o with | some r => some ⟨r, [], (q = true → a.cond) ∧ (q = false → b.cond)⟩ | none => none
def pk (v a b : AV) : Option Res :=
  match v with | .v (.bool q) => pk2 q (pickAV q a.strip b.strip) a b | _ => none
theorem e_pick : evOp E H n (.pick c a b) val = pk (val c).strip (val a) (val b) := by
  simp only [evOp, pk]
  split <;> rename_i h
  · rw [h]; simp only [pk2]; cases pickAV _ (val a).strip (val b).strip <;> rfl
  · split
    · rename_i q hq; exact absurd hq (h q)
    · rfl
theorem r_pk {q : Bool} {a b : AV} : pk (.v (.bool q)) a b = pk2 q (pickAV q a.strip b.strip) a b := rfl
theorem r_pk2 {q : Bool} {a b : AV} : pk2 q (some r) a b = some ⟨r, [], (q = true → a.cond) ∧ (q = false → b.cond)⟩ := rfl
theorem r_pF {q x : Bool} : pickAV q (.v (.bool x)) (.v (.bool false)) = some (.v (.bool (q && x))) := by cases q <;> rfl
theorem r_pT {q y : Bool} : pickAV q (.v (.bool true)) (.v (.bool y)) = some (.v (.bool (q || y))) := by cases q <;> rfl
theorem r_p {q x y : Bool} : pickAV q (.v (.bool x)) (.v (.bool y)) = some (.v (.bool (bif q then x else y))) := rfl

def al (n : Nat) : Option TI → Option Res
  | some i => some ⟨.ptr n 0, [(n, .box i.zero)], True⟩
  | none => none
theorem e_alloc : evOp E H n (.alloc t) val = al n (E.ty t) := by simp only [evOp, al]; cases E.ty t <;> rfl
theorem r_al {d : TypeDesc} {s p : Nat} {z : List AV} : al n (some ⟨d, s, p, z⟩) = some ⟨.ptr n 0, [(n, .box z)], True⟩ := rfl
def bx (n : Nat) : Option (List AV) → Option Res
  | some l => some ⟨.ptr n 0, [(n, .box l)], True⟩
  | none => none
theorem e_box : evOp E H n (.box t x) val = bx n (val x).strip.cells? := by simp only [evOp, bx]; cases (val x).strip.cells? <;> rfl
theorem r_bx {l : List AV} : bx n (some l) = some ⟨.ptr n 0, [(n, .box l)], True⟩ := rfl

theorem e_build {ps : List (Nat × Operand)} : evOp E H n (.build t (List.toArray ps)) st.val = resA (evBuild E t (vps st ps)) := by simp only [evOp, vps_eq, resA_eq]
theorem e_buildS {ps : List (Nat × Operand)} : evOp E H n (.buildSlice t k (List.toArray ps)) st.val = resA (evBuildSlice E t k (vps st ps)) := by simp only [evOp, vps_eq, resA_eq]
theorem e_load : evOp E H n (.load t x) val = resA (evLoad E H t (val x).strip) := by simp only [evOp, resA_eq]
def stR : Option (List (Nat × Ent)) → Option Res
  | some U => some ⟨.v undef, U, True⟩
  | none => none
theorem e_store : evOp E H n (.store t a b) val = stR (evStore E H t (val a).strip (val b).strip) := by simp only [evOp, stR]; cases evStore E H t (val a).strip (val b).strip <;> rfl
theorem r_st {U : List (Nat × Ent)} : stR (some U) = some ⟨.v undef, U, True⟩ := rfl
def nc : AV → Option Res
  | .ptr i o => some ⟨.ptr i o, [], True⟩
  | .iptr c o => some ⟨.iptr c o, [], True⟩
  | .fn f l => some ⟨.fn f l, [], True⟩
  | _ => none
theorem e_nil : evOp E H n (.nilCheck x) val = nc (val x).strip := by simp only [evOp, nc]; cases (val x).strip <;> rfl
theorem r_ncp {i o : Nat} : nc (.ptr i o) = some ⟨.ptr i o, [], True⟩ := rfl
theorem r_nci {i : List AV} {o : Nat} : nc (.iptr i o) = some ⟨.iptr i o, [], True⟩ := rfl
theorem r_ncf {f : FuncId} {l : List AV} : nc (.fn f l) = some ⟨.fn f l, [], True⟩ := rfl
theorem e_bin {o : BinOp} : evOp E H n (.binOp o t a b t') val = evBin E o t (val a).strip (val b).strip := rfl
def un (o : UnOp) : AV → Option Res
  | .v a => (unV o a).map fun v => { r := .v v }
  | _ => none
theorem e_un {o : UnOp} : evOp E H n (.unOp o t x) val = un o (val x).strip := by simp only [evOp, un]; cases (val x).strip <;> rfl
theorem r_not {z : Bool} : un .not (.v (.bool z)) = some ⟨.v (.bool !z), [], True⟩ := rfl
theorem r_neg {k : IntKind} {z : Int} : un .neg (.v (.int k z)) = some ⟨.v (.int k (k.wrap (0 - z))), [], True⟩ := rfl
theorem r_xor {k : IntKind} {z : Int} : un .xor (.v (.int k z)) = some ⟨.v (.int k (bits .xor k (if k.signed then -1 else k.max) z)), [], True⟩ := rfl
theorem e_conv : evOp E H n (.convert t t' x) val = evConvert E n t t' (val x).strip := rfl
theorem e_mf {f : FuncId} {l : List Operand} : evOp E H n (.makeFunc (.func f) (List.toArray []) (List.toArray l)) st.val = some ⟨.fn f (vals st l), [], True⟩ := by simp [evOp, vals_eq]
def ov (val : Operand → AV) : Option Operand → Option AV
  | none => none
  | some x => some (val x).strip
theorem r_ov0 : ov val none = none := rfl
theorem r_ov {x : Operand} : ov val (some x) = some (val x).strip := rfl
theorem e_sl {l h m : Option Operand} : evOp E H n (.slice t x l h m) val = evSlice E H t (val x).strip (ov val l) (ov val h) (ov val m) := by
  cases l <;> cases h <;> cases m <;> rfl
theorem e_fa : evOp E H n (.fieldAddr t x k) val = resA (evFieldAddr E t (val x).strip k) := by simp only [evOp, resA_eq]
theorem e_f : evOp E H n (.field t x k) val = resA (evField E t (val x).strip k) := by simp only [evOp, resA_eq]
theorem e_ia : evOp E H n (.indexAddr t a b) val = evIndexAddr E t (val a).strip (val b).strip := rfl
theorem e_i : evOp E H n (.index t a b) val = evIndex E t (val a).strip (val b).strip := rfl
theorem e_ext : evOp E H n (.extract x k) val = resA (evExtract (val x).strip k) := by simp only [evOp, resA_eq]
theorem r_ext {l : List AV} : evExtract (.tup l) k = l[k]? := rfl
theorem e_call {f : Builtin} {l : List Operand} {ts : Array TypeId} : evOp E H n (.call ⟨.builtin f, List.toArray l, ts⟩) st.val = evBuiltin E H n (.builtin f) ts (vals st l) := by simp only [evOp, vals_eq]
end

/-! ### Cells -/
section
variable {x y : AV} {l xs : List AV} {k n : Nat}
theorem w_S : wr (x :: l) (k + 1) xs = x :: wr l k xs := by
  simp only [wr, List.take_succ_cons, show k + 1 + xs.length = (k + xs.length) + 1 by omega, List.drop_succ_cons, List.cons_append]
theorem w_0S : wr (x :: l) 0 (y :: xs) = y :: wr l 0 xs := by
  simp [wr]
theorem w_00 : wr l k [] = l := by simp [wr]
theorem d_S : rd (x :: l) (k + 1) n = rd l k n := by simp [rd]
theorem d_0S : rd (x :: l) 0 (n + 1) = x :: rd l 0 n := by simp [rd]
theorem d_00 : rd l k 0 = [] := by simp [rd]
end

/-! ### Loads, stores, fields -/
section
variable {E : Env} {H : Nat → Ent} {t : TypeId} {d : TypeDesc} {s p i o off k : Nat} {z l cs : List AV} {x y : AV}
def ld (agg : Bool) (s : Nat) (cells : List AV) (off : Nat) : Option AV :=
  if agg then (if off + s ≤ cells.length then some (.agg (rd cells off s)) else none) else cells[off]?
def ld1 : Option TI → Option (List AV × Nat) → Option AV
  | some i, some (cells, off) => ld i.agg i.size cells off
  | _, _ => none
theorem l_load : evLoad E H t x = ld1 (E.ty t) (cellsAt H x) := by
  simp only [evLoad, ld1, ld]; cases E.ty t <;> cases cellsAt H x <;> rfl
theorem l_1 : ld1 (some ⟨d, s, p, z⟩) (some (l, off)) = ld (TI.agg ⟨d, s, p, z⟩) s l off := rfl
theorem l_f : ld false s l off = l[off]? := rfl
theorem l_t : ld true s l off = if off + s ≤ l.length then some (.agg (rd l off s)) else none := rfl
def atE : Ent → Nat → Option (List AV × Nat)
  | .box l, o => some (l, o)
  | .ibox l, o => some (l, o)
  | _, _ => none
theorem l_ptr : cellsAt H (.ptr i o) = atE (H i) o := by simp only [cellsAt, atE]; cases H i <;> rfl
theorem l_iptr : cellsAt H (.iptr l o) = some (l, o) := rfl
theorem l_box : atE (.box l) o = some (l, o) := rfl
theorem l_ibox : atE (.ibox l) o = some (l, o) := rfl
theorem a_struct {fs : Array Field} : TI.agg ⟨.struct fs, s, p, z⟩ = true := rfl
theorem a_array {m : Nat} {e : TypeId} : TI.agg ⟨.array m e, s, p, z⟩ = true := rfl
theorem a_bool : TI.agg ⟨.bool, s, p, z⟩ = false := rfl
theorem a_int {k : IntKind} : TI.agg ⟨.int k, s, p, z⟩ = false := rfl
theorem a_str : TI.agg ⟨.string, s, p, z⟩ = false := rfl
theorem a_ptr {e : TypeId} : TI.agg ⟨.pointer e, s, p, z⟩ = false := rfl
theorem a_sl {e : TypeId} : TI.agg ⟨.slice e, s, p, z⟩ = false := rfl
theorem a_fn {a b : Array TypeId} {v : Bool} : TI.agg ⟨.func a b v, s, p, z⟩ = false := rfl
theorem a_if {m : Array (String × TypeId)} : TI.agg ⟨.interface m, s, p, z⟩ = false := rfl

def st2 : Ent → Nat → Nat → Nat → List AV → Option (List (Nat × Ent))
  | .box cells, id, off, s, xs => if xs.length = s ∧ off + xs.length ≤ cells.length ∧ xs.all AV.one = true then some [(id, .box (wr cells off xs))] else none
  | _, _, _, _, _ => none
def st1 (H : Nat → Ent) : Option TI → AV → Option (List AV) → Option (List (Nat × Ent))
  | some i, .ptr id off, some xs => st2 (H id) id off i.size xs
  | _, _, _ => none
theorem t_store : evStore E H t x y = st1 H (E.ty t) x y.cells? := by
  simp only [evStore, st1]
  cases E.ty t <;> cases x <;> cases y.cells? <;> first | rfl | (simp only [st2]; cases H _ <;> rfl)
theorem t_1 {id : Nat} {xs : List AV} : st1 H (some ⟨d, s, p, z⟩) (.ptr id off) (some xs) = st2 (H id) id off s xs := rfl
theorem t_2 {id : Nat} {xs : List AV} : st2 (.box l) id off s xs = if xs.length = s ∧ off + xs.length ≤ l.length ∧ xs.all AV.one = true then some [(id, .box (wr l off xs))] else none := rfl

def fa3 (off : Nat) : Option TI → AV → Option AV
  | some fi, a => if fi.size = 0 then none else match a with
    | .ptr id o => some (.ptr id (o + off))
    | .iptr c o => some (.iptr c (o + off))
    | _ => none
  | none, _ => none
def fa2 (E : Env) : Option Field → AV → Option AV
  | some f, a => fa3 f.offset (E.ty f.type) a
  | none, _ => none
def fa1 (E : Env) (k : Nat) : Option TI → AV → Option AV
  | some ⟨.struct fs, _, _, _⟩, a => fa2 E fs[k]? a
  | _, _ => none
theorem f_addr : evFieldAddr E t x k = fa1 E k (E.ty t) x := by
  simp only [evFieldAddr]
  cases E.ty t with
  | none => rfl
  | some i =>
    obtain ⟨d, s, p, z⟩ := i
    cases d <;> first | rfl | skip
    rename_i fs
    simp only [fa1]
    cases fs[k]? with
    | none => rfl
    | some f => simp only [fa2]; cases E.ty f.type <;> rfl
theorem f_1 {fs : List Field} : fa1 E k (some ⟨.struct (List.toArray fs), s, p, z⟩) x = fa2 E (fs[k]?) x := by simp [fa1]
theorem f_2 {nm tg pk : String} {ty : TypeId} {off bo : Nat} {em : Bool} : fa2 E (some ⟨nm, ty, off, em, tg, pk, bo⟩) x = fa3 off (E.ty ty) x := rfl
theorem f_3p {id : Nat} : fa3 off (some ⟨d, s + 1, p, z⟩) (.ptr id o) = some (.ptr id (o + off)) := rfl
theorem f_3i : fa3 off (some ⟨d, s + 1, p, z⟩) (.iptr l o) = some (.iptr l (o + off)) := rfl

def pt : Option TI → List AV → Nat → Option AV
  | some i, cells, off => ld i.agg i.size cells off
  | none, _, _ => none
theorem p_part : evPart E t l off = pt (E.ty t) l off := by simp only [evPart, pt, ld]; cases E.ty t <;> rfl
theorem p_1 : pt (some ⟨d, s, p, z⟩) l off = ld (TI.agg ⟨d, s, p, z⟩) s l off := rfl
end
end Go.Ev
