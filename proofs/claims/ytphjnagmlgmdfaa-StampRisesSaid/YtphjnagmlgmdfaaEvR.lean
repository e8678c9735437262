/-
The evaluator as a set of rewriting rules: each reads a closed shape and gives the next one, so that a simplifier never stands under an open case.
-/
import Derived.Test.YtphjnagmlgmdfaaEvQ
set_option linter.unusedVariables false
set_option linter.unusedSimpArgs false
namespace Go.Ev
open Go

/-! ### The machine -/

def goR (E : Env) (k0 n : Nat) (G : Option Bool) (res : Option Res) (cs : Prop) (F : List Nat) (ops : Array Oper) (draw : Bool) (i : Nat) (d : Option Tmp) (rest : List Oper) (tr : List (Nat × List Nat × List Nat)) (t : List Todo) (st : St) (Q : Exit → St → Prop) : Prop :=
  match res with
  | none => False
  | some res =>
    match res.U with
    | [] => (underG G cs ∧ underG G res.ob) ∧ exec E k0 n (.ops ops draw (i + 1) rest ((i, F, []) :: tr) :: t) ((⟨st.t, st.h⟩ : St).put d (cndize G res.r)) Q
    | u :: U => match G with
      | none => (cs ∧ res.ob) ∧ exec E k0 n (.ops ops draw (i + 1) rest ((i, F ++ (u :: U).map (·.1), (u :: U).map (·.1)) :: tr) :: t) ((⟨st.t, appH st.h (u :: U)⟩ : St).put d res.r) Q
      | some b => (b = true → (cs ∧ res.ob) ∧ exec E k0 n (.ops ops draw (i + 1) rest ((i, F ++ (u :: U).map (·.1), (u :: U).map (·.1)) :: tr) :: t) ((⟨st.t, appH st.h (u :: U)⟩ : St).put d res.r) Q) ∧
          (b = false → exec E k0 n (.ops ops draw (i + 1) rest ((i, [], []) :: tr) :: t) ((⟨st.t, st.h⟩ : St).put d (.v undef)) Q)

def goC (E : Env) (k0 n : Nat) (G : Option Bool) (c : Option (FuncId × List AV)) (op : Op) (ty : TypeId) (pos : String) (after : Array Edge) (g : Option (Nat × Bool)) (ops : Array Oper) (draw : Bool) (i : Nat) (d : Option Tmp) (rest : List Oper) (tr : List (Nat × List Nat × List Nat)) (t : List Todo) (st : St) (Q : Exit → St → Prop) : Prop :=
  match c with
  | some (f, args) => CallN E k0 ops draw i ⟨d, op, ty, pos, after, g⟩ rest tr t st G (underG G (conds st.val (opnds op))) f args Q
  | none => goR E k0 n G (evOp E (hget st.h) st.h.length op st.val) (conds st.val (opnds op)) (foot op st.val) ops draw i d rest tr t st Q

def goG (E : Env) (k0 n : Nat) (G : Option (Option Bool)) (op : Op) (ty : TypeId) (pos : String) (after : Array Edge) (g : Option (Nat × Bool)) (ops : Array Oper) (draw : Bool) (i : Nat) (d : Option Tmp) (rest : List Oper) (tr : List (Nat × List Nat × List Nat)) (t : List Todo) (st : St) (Q : Exit → St → Prop) : Prop :=
  match G with
  | none => False
  | some G => goC E k0 n G (callOf st op) op ty pos after g ops draw i d rest tr t st Q

section
variable {E : Env} {k0 n : Nat} {t : List Todo} {st : St} {Q : Exit → St → Prop}

theorem x_op {ops : Array Oper} {draw : Bool} {i : Nat} {d : Option Tmp} {op : Op} {ty : TypeId} {pos : String} {after : Array Edge} {g : Option (Nat × Bool)} {rest : List Oper} {tr : List (Nat × List Nat × List Nat)} :
    exec E k0 (n + 1) (.ops ops draw i (⟨d, op, ty, pos, after, g⟩ :: rest) tr :: t) st Q = goG E k0 n (guardOf ops st ⟨d, op, ty, pos, after, g⟩) op ty pos after g ops draw i d rest tr t st Q := by
  simp only [exec, stepO, goG]
  cases guardOf ops st ⟨d, op, ty, pos, after, g⟩ with
  | none => rfl
  | some G =>
    simp only [goC]
    cases callOf st op with
    | some p => obtain ⟨f, args⟩ := p; rfl
    | none =>
      simp only [goR]
      cases evOp E (hget st.h) st.h.length op st.val with
      | none => rfl
      | some res =>
        obtain ⟨r, U, ob⟩ := res
        cases U with
        | nil => rfl
        | cons u U => cases G <;> rfl

theorem x_opsF {ops : Array Oper} {i : Nat} {tr : List (Nat × List Nat × List Nat)} : exec E k0 (n + 1) (.ops ops false i [] tr :: t) st Q = exec E k0 n t st Q := by
  simp only [exec, true_and]
theorem x_opsT {ops : Array Oper} {i : Nat} {tr : List (Nat × List Nat × List Nat)} : exec E k0 (n + 1) (.ops ops true i [] tr :: t) st Q = (Indep ops tr ∧ exec E k0 n t st Q) := rfl
theorem x_nil : exec E k0 (n + 1) [] st Q = Q .normal st := rfl
theorem x_blk {id : Nat} : exec E k0 (n + 1) (.blk id :: t) st Q = exec E k0 n t st Q := rfl
theorem x_rep {m : Nat} {c : Code} : exec E k0 (n + 1) (.rep (m + 1) c :: t) st Q = exec E k0 n (.code c :: .rep m c :: t) st Q := rfl
theorem x_skip : exec E k0 (n + 1) (.code .skip :: t) st Q = exec E k0 n t st Q := rfl
theorem x_seq {a b : Code} : exec E k0 (n + 1) (.code (.seq a b) :: t) st Q = exec E k0 n (.code a :: .code b :: t) st Q := rfl
theorem x_block {id : Nat} {c : Code} : exec E k0 (n + 1) (.code (.block id c) :: t) st Q = exec E k0 n (.code c :: .blk id :: t) st Q := rfl
theorem x_ret : exec E k0 (n + 1) (.code .ret :: t) st Q = Q .ret st := rfl
theorem x_label {l : Nat} : exec E k0 (n + 1) (.code (.label l) :: t) st Q = exec E k0 n t st Q := rfl
theorem x_region {id : Nat} {ops : List Oper} {draw : Bool} : exec E k0 (n + 1) (.code (.region id (List.toArray ops) draw) :: t) st Q = exec E k0 n (.ops (List.toArray ops) draw 0 ops [] :: t) st Q := rfl

def exK (E : Env) (k0 n : Nat) (id : Nat) (x : Option (List Todo)) (st : St) (Q : Exit → St → Prop) : Prop :=
  match x with | some t' => exec E k0 n t' st Q | none => Q (.exit id) st
theorem x_exit {id : Nat} : exec E k0 (n + 1) (.code (.exit id) :: t) st Q = exK E k0 n id (exitAt id t) st Q := rfl
theorem x_exit_s {id : Nat} {t' : List Todo} : exK E k0 n id (some t') st Q = exec E k0 n t' st Q := rfl
theorem x_exit_n {id : Nat} : exK E k0 n id none st Q = Q (.exit id) st := rfl

def cndK (E : Env) (k0 n : Nat) (v : AV) (x y : Code) (t : List Todo) (st : St) (Q : Exit → St → Prop) : Prop :=
  v.cond ∧ match v.strip with
    | .v (.bool b) => (b = true → exec E k0 n (.code x :: t) st Q) ∧ (b = false → exec E k0 n (.code y :: t) st Q)
    | _ => False
theorem x_cond {c : Operand} {x y : Code} : exec E k0 (n + 1) (.code (.cond c x y) :: t) st Q = cndK E k0 n (st.val c) x y t st Q := rfl
theorem x_cond_b {b : Bool} {x y : Code} : cndK E k0 n (.v (.bool b)) x y t st Q = ((b = true → exec E k0 n (.code x :: t) st Q) ∧ (b = false → exec E k0 n (.code y :: t) st Q)) := by
  simp only [cndK, AV.cond, AV.strip, true_and]
theorem x_cond_c {c b : Bool} {x y : Code} : cndK E k0 n (.cnd c (.v (.bool b))) x y t st Q = (c = true ∧ (b = true → exec E k0 n (.code x :: t) st Q) ∧ (b = false → exec E k0 n (.code y :: t) st Q)) := rfl
theorem x_cond_t {x y : Code} : cndK E k0 n (.v (.bool true)) x y t st Q = exec E k0 n (.code x :: t) st Q := by
  simp only [x_cond_b, true_implies, reduceCtorEq, false_implies, and_true]
theorem x_cond_f {x y : Code} : cndK E k0 n (.v (.bool false)) x y t st Q = exec E k0 n (.code y :: t) st Q := by
  simp only [x_cond_b, true_implies, reduceCtorEq, false_implies, true_and]
theorem cond_b {b : Bool} {x y : Code} (h1 : b = true → exec E k0 n (.code x :: t) st Q) (h2 : b = false → exec E k0 n (.code y :: t) st Q) : cndK E k0 n (.v (.bool b)) x y t st Q := x_cond_b ▸ ⟨h1, h2⟩
theorem cond_c {c b : Bool} {x y : Code} (h : c = true) (h1 : b = true → exec E k0 n (.code x :: t) st Q) (h2 : b = false → exec E k0 n (.code y :: t) st Q) : cndK E k0 n (.cnd c (.v (.bool b))) x y t st Q := ⟨h, h1, h2⟩
theorem x_loop {c : Code} : exec E k0 (n + 1) (.code (.loop c) :: t) st Q = StopN E k0 (.loop c) t st Q := rfl
theorem x_rangeFunc {a b c d} : exec E k0 (n + 1) (.code (.rangeFunc a b c d) :: t) st Q = StopN E k0 (.rangeFunc a b c d) t st Q := rfl
theorem x_scope {c : Code} : exec E k0 (n + 1) (.code (.scope c) :: t) st Q = StopN E k0 (.scope c) t st Q := rfl

variable {ops : Array Oper} {draw : Bool} {i : Nat} {d : Option Tmp} {op : Op} {ty : TypeId} {pos : String} {after : Array Edge} {g : Option (Nat × Bool)} {rest : List Oper} {tr : List (Nat × List Nat × List Nat)} {cs ob : Prop} {F : List Nat} {r : AV} {G : Option Bool} {u : Nat × Ent} {U : List (Nat × Ent)} {T : List AV} {H : List Ent}
theorem x_G : goG E k0 n (some G) op ty pos after g ops draw i d rest tr t st Q = goC E k0 n G (callOf st op) op ty pos after g ops draw i d rest tr t st Q := rfl
theorem x_Gn : goG E k0 n none op ty pos after g ops draw i d rest tr t st Q = False := rfl
theorem x_C {f : FuncId} {args : List AV} : goC E k0 n G (some (f, args)) op ty pos after g ops draw i d rest tr t st Q = CallN E k0 ops draw i ⟨d, op, ty, pos, after, g⟩ rest tr t st G (underG G (conds st.val (opnds op))) f args Q := rfl
theorem x_Cn : goC E k0 n G none op ty pos after g ops draw i d rest tr t ⟨T, H⟩ Q = goR E k0 n G (evOp E (hget H) H.length op (St.val ⟨T, H⟩)) (conds (St.val ⟨T, H⟩) (opnds op)) (foot op (St.val ⟨T, H⟩)) ops draw i d rest tr t ⟨T, H⟩ Q := rfl
theorem x_R : goR E k0 n G (some ⟨r, [], ob⟩) cs F ops draw i d rest tr t ⟨T, H⟩ Q = ((underG G cs ∧ underG G ob) ∧ exec E k0 n (.ops ops draw (i + 1) rest ((i, F, []) :: tr) :: t) ((⟨T, H⟩ : St).put d (cndize G r)) Q) := rfl
theorem x_RU : goR E k0 n none (some ⟨r, u :: U, ob⟩) cs F ops draw i d rest tr t ⟨T, H⟩ Q = ((cs ∧ ob) ∧ exec E k0 n (.ops ops draw (i + 1) rest ((i, F ++ (u :: U).map (·.1), (u :: U).map (·.1)) :: tr) :: t) ((⟨T, appH H (u :: U)⟩ : St).put d r) Q) := rfl
theorem x_RG {b : Bool} : goR E k0 n (some b) (some ⟨r, u :: U, ob⟩) cs F ops draw i d rest tr t ⟨T, H⟩ Q = ((b = true → (cs ∧ ob) ∧ exec E k0 n (.ops ops draw (i + 1) rest ((i, F ++ (u :: U).map (·.1), (u :: U).map (·.1)) :: tr) :: t) ((⟨T, appH H (u :: U)⟩ : St).put d r) Q) ∧
    (b = false → exec E k0 n (.ops ops draw (i + 1) rest ((i, [], []) :: tr) :: t) ((⟨T, H⟩ : St).put d (.v undef)) Q)) := rfl
theorem x_Rn : goR E k0 n G none cs F ops draw i d rest tr t st Q = False := rfl
end

theorem x_uN {p : Prop} : underG none p = p := rfl
theorem x_uT {b : Bool} : underG (some b) True = True := by simp [underG]
theorem x_uS {b : Bool} {p : Prop} : underG (some b) p = (b = true → p) := rfl
theorem x_cN {r : AV} : cndize none r = r := rfl
theorem x_cS {b : Bool} {r : AV} : cndize (some b) r = .cnd b r := rfl
theorem x_ex0 {id : Nat} : exitAt id [] = none := rfl
theorem x_exC {id : Nat} {c : Code} {t : List Todo} : exitAt id (.code c :: t) = exitAt id t := rfl
theorem x_exO {id : Nat} {ops : Array Oper} {draw : Bool} {i : Nat} {rest : List Oper} {tr : List (Nat × List Nat × List Nat)} {t : List Todo} : exitAt id (.ops ops draw i rest tr :: t) = exitAt id t := rfl
theorem x_exR {id m : Nat} {c : Code} {t : List Todo} : exitAt id (.rep m c :: t) = exitAt id t := rfl
theorem x_exB {id i : Nat} {t : List Todo} : exitAt id (.blk i :: t) = if id = i then some t else exitAt id t := rfl

/-! ### The state -/
section
variable {T : List AV} {H : List Ent} {v x : AV} {k : Nat} {e y : Ent}
theorem s_tmp : St.val ⟨T, H⟩ (.tmp k) = nth T k := rfl
theorem s_const {c : Value} : St.val ⟨T, H⟩ (.const c) = .v c := rfl
theorem s_func {f : FuncId} : St.val ⟨T, H⟩ (.func f) = .fn f [] := rfl
theorem s_put : St.put ⟨T, H⟩ (some k) v = ⟨setT T k v, H⟩ := rfl
theorem s_put0 : St.put ⟨T, H⟩ none v = ⟨T, H⟩ := rfl
theorem s_nth0 : nth (x :: T) 0 = x := rfl
theorem s_nthS : nth (x :: T) (k + 1) = nth T k := rfl
theorem s_set0 : setT (x :: T) 0 v = v :: T := rfl
theorem s_setS : setT (x :: T) (k + 1) v = x :: setT T k v := rfl
theorem s_hg0 : hget (y :: H) 0 = y := rfl
theorem s_hgS : hget (y :: H) (k + 1) = hget H k := rfl
theorem s_hgN : hget [] k = .unborn := by cases k <;> rfl
theorem s_sh00 : setH [] 0 e = [e] := rfl
theorem s_sh0S : setH [] (k + 1) e = .unborn :: setH [] k e := rfl
theorem s_shS0 : setH (y :: H) 0 e = e :: H := rfl
theorem s_shSS : setH (y :: H) (k + 1) e = y :: setH H k e := rfl
theorem s_ap0 : appH H [] = H := by cases H <;> rfl
theorem s_apS {U : List (Nat × Ent)} : appH H ((k, e) :: U) = appH (setH H k e) U := rfl
theorem s_len0 {α : Type} : ([] : List α).length = 0 := rfl
theorem s_lenS {α : Type} {a : α} {l : List α} : (a :: l).length = l.length + 1 := rfl
def vals (s : St) : List Operand → List AV
  | [] => []
  | x :: r => (s.val x).strip :: vals s r
theorem vals_eq (s : St) : ∀ l, vals s l = l.map fun x => (s.val x).strip
  | [] => rfl
  | x :: r => by simp [vals, vals_eq s r]
def vps (s : St) : List (Nat × Operand) → List (Nat × AV)
  | [] => []
  | (i, x) :: r => (i, (s.val x).strip) :: vps s r
theorem vps_eq (s : St) : ∀ l, vps s l = mapV (fun x => (s.val x).strip) l
  | [] => rfl
  | (i, x) :: r => by have := vps_eq s r; simp only [mapV] at this; simp [vps, mapV, this]
theorem s_vals0 : vals ⟨T, H⟩ [] = [] := rfl
theorem s_valsS {o : Operand} {r : List Operand} : vals ⟨T, H⟩ (o :: r) = (St.val ⟨T, H⟩ o).strip :: vals ⟨T, H⟩ r := rfl
theorem s_vps0 : vps ⟨T, H⟩ [] = [] := rfl
theorem s_vpsS {i : Nat} {o : Operand} {r : List (Nat × Operand)} : vps ⟨T, H⟩ ((i, o) :: r) = (i, (St.val ⟨T, H⟩ o).strip) :: vps ⟨T, H⟩ r := rfl
end

section
variable {c : Value} {i o n s : Nat} {l : List AV} {ls : List (List AV)} {tok : Tok} {f : FuncId} {ty : TypeId} {x : AV} {b : Bool}
theorem p_v : AV.strip (.v c) = .v c := rfl
theorem p_ptr : AV.strip (.ptr i o) = .ptr i o := rfl
theorem p_iptr : AV.strip (.iptr l o) = .iptr l o := rfl
theorem p_sl : AV.strip (.sl s ls tok) = .sl s ls tok := rfl
theorem p_asl : AV.strip (.asl s ls) = .asl s ls := rfl
theorem p_bsl : AV.strip (.bsl i o n s) = .bsl i o n s := rfl
theorem p_fn : AV.strip (.fn f l) = .fn f l := rfl
theorem p_ifc : AV.strip (.ifc ty x) = .ifc ty x := rfl
theorem p_agg : AV.strip (.agg l) = .agg l := rfl
theorem p_tup : AV.strip (.tup l) = .tup l := rfl
theorem p_junk : AV.strip .junk = .junk := rfl
theorem p_cnd : AV.strip (.cnd b x) = x := rfl
theorem q_v : AV.cond (.v c) = True := rfl
theorem q_ptr : AV.cond (.ptr i o) = True := rfl
theorem q_iptr : AV.cond (.iptr l o) = True := rfl
theorem q_sl : AV.cond (.sl s ls tok) = True := rfl
theorem q_asl : AV.cond (.asl s ls) = True := rfl
theorem q_bsl : AV.cond (.bsl i o n s) = True := rfl
theorem q_fn : AV.cond (.fn f l) = True := rfl
theorem q_ifc : AV.cond (.ifc ty x) = True := rfl
theorem q_agg : AV.cond (.agg l) = True := rfl
theorem q_tup : AV.cond (.tup l) = True := rfl
theorem q_junk : AV.cond .junk = True := rfl
theorem q_cnd : AV.cond (.cnd b x) = (b = true) := rfl
variable {k : IntKind} {z : Int} {str : ByteArray} {cs : Array Value}
theorem c_agg : AV.cells? (.agg l) = some l := rfl
theorem c_vagg : AV.cells? (.v (.agg cs)) = some (cs.toList.map .v) := rfl
theorem c_int : AV.cells? (.v (.int k z)) = some [.v (.int k z)] := rfl
theorem c_bool : AV.cells? (.v (.bool b)) = some [.v (.bool b)] := rfl
theorem c_str : AV.cells? (.v (.string str)) = some [.v (.string str)] := rfl
theorem c_vptr {a : Option Addr} : AV.cells? (.v (.pointer a)) = some [.v (.pointer a)] := rfl
theorem c_vsl {a : Option Addr} {m p : Nat} : AV.cells? (.v (.slice a m p)) = some [.v (.slice a m p)] := rfl
theorem c_nilF : AV.cells? (.v .nilFunc) = some [.v .nilFunc] := rfl
theorem c_nilI : AV.cells? (.v .nilIface) = some [.v .nilIface] := rfl
theorem c_ptr : AV.cells? (.ptr i o) = some [.ptr i o] := rfl
theorem c_iptr : AV.cells? (.iptr l o) = some [.iptr l o] := rfl
theorem c_sl : AV.cells? (.sl s ls tok) = some [.sl s ls tok] := rfl
theorem c_asl : AV.cells? (.asl s ls) = some [.asl s ls] := rfl
theorem c_bsl : AV.cells? (.bsl i o n s) = some [.bsl i o n s] := rfl
theorem c_fn : AV.cells? (.fn f l) = some [.fn f l] := rfl
theorem c_ifc : AV.cells? (.ifc ty x) = some [.ifc ty x] := rfl
theorem o_int : AV.one (.v (.int k z)) = true := rfl
theorem o_bool : AV.one (.v (.bool b)) = true := rfl
theorem o_str : AV.one (.v (.string str)) = true := rfl
theorem o_vptr {a : Option Addr} : AV.one (.v (.pointer a)) = true := rfl
theorem o_vsl {a : Option Addr} {m p : Nat} : AV.one (.v (.slice a m p)) = true := rfl
theorem o_nilF : AV.one (.v .nilFunc) = true := rfl
theorem o_nilI : AV.one (.v .nilIface) = true := rfl
theorem o_ptr : AV.one (.ptr i o) = true := rfl
theorem o_iptr : AV.one (.iptr l o) = true := rfl
theorem o_sl : AV.one (.sl s ls tok) = true := rfl
theorem o_asl : AV.one (.asl s ls) = true := rfl
theorem o_bsl : AV.one (.bsl i o n s) = true := rfl
theorem o_fn : AV.one (.fn f l) = true := rfl
theorem o_ifc : AV.one (.ifc ty x) = true := rfl
end

/-! ### Operands, guards, calls -/
section
variable {a b c x y : Operand} {t t' : TypeId} {k : Nat} {val : Operand → AV} {r : List Operand} {T : List AV} {H : List Ent}
theorem d_nil : conds val [] = True := rfl
theorem d_cons : conds val (x :: r) = ((val x).cond ∧ conds val r) := rfl
theorem n_move : opnds (.move x) = [x] := rfl
theorem n_assign : opnds (.assign x) = [x] := rfl
theorem n_box : opnds (.box t x) = [x] := rfl
theorem n_load : opnds (.load t x) = [x] := rfl
theorem n_nil : opnds (.nilCheck x) = [x] := rfl
theorem n_un {o : UnOp} : opnds (.unOp o t x) = [x] := rfl
theorem n_conv : opnds (.convert t t' x) = [x] := rfl
theorem n_mi : opnds (.makeInterface t x) = [x] := rfl
theorem n_fa : opnds (.fieldAddr t x k) = [x] := rfl
theorem n_f : opnds (.field t x k) = [x] := rfl
theorem n_ext : opnds (.extract x k) = [x] := rfl
theorem n_pick : opnds (.pick a b c) = [a] := rfl
theorem n_alloc : opnds (.alloc t) = [] := rfl
theorem n_store : opnds (.store t a b) = [a, b] := rfl
theorem n_bin {o : BinOp} : opnds (.binOp o t a b t') = [a, b] := rfl
theorem n_ia : opnds (.indexAddr t a b) = [a, b] := rfl
theorem n_i : opnds (.index t a b) = [a, b] := rfl
def snds : List (Nat × Operand) → List Operand
  | [] => []
  | (_, x) :: r => x :: snds r
theorem snds_eq : ∀ l, snds l = l.map (·.2)
  | [] => rfl
  | (_, x) :: r => by simp [snds, snds_eq r]
theorem n_snd0 : snds [] = [] := rfl
theorem n_sndS {i : Nat} {l : List (Nat × Operand)} : snds ((i, x) :: l) = x :: snds l := rfl
theorem n_build {ps : List (Nat × Operand)} : opnds (.build t (List.toArray ps)) = snds ps := by simp [opnds, snds_eq]
theorem n_buildS {ps : List (Nat × Operand)} : opnds (.buildSlice t k (List.toArray ps)) = snds ps := by simp [opnds, snds_eq]
theorem n_sl000 : opnds (.slice t x none none none) = [x] := rfl
theorem n_sl100 : opnds (.slice t x (some a) none none) = [x, a] := rfl
theorem n_sl010 : opnds (.slice t x none (some b) none) = [x, b] := rfl
theorem n_sl110 : opnds (.slice t x (some a) (some b) none) = [x, a, b] := rfl
theorem n_sl111 : opnds (.slice t x (some a) (some b) (some c)) = [x, a, b, c] := rfl
theorem n_sl011 : opnds (.slice t x none (some b) (some c)) = [x, b, c] := rfl
theorem n_mf {f : Fn} {fs : Array Operand} {l : List Operand} : opnds (.makeFunc f fs (List.toArray l)) = l := rfl
theorem n_callV {l : List Operand} {ts : Array TypeId} : opnds (.call ⟨.value x, List.toArray l, ts⟩) = x :: l := rfl
theorem n_callB {f : Builtin} {l : List Operand} {ts : Array TypeId} : opnds (.call ⟨.builtin f, List.toArray l, ts⟩) = l := rfl

def gO (T : List AV) (w : Bool) : Option Oper → Option (Option Bool)
  | some ⟨some d, _, _, _, _, _⟩ => (guardB (nth T d) w).map some
  | _ => none
variable {ops : List Oper} {d : Option Tmp} {o : Op} {pos : String} {after : Array Edge} {j : Nat} {w : Bool}
theorem g_none {ops : Array Oper} : guardOf ops ⟨T, H⟩ ⟨d, o, t, pos, after, none⟩ = some none := rfl
theorem g_some : guardOf (List.toArray ops) ⟨T, H⟩ ⟨d, o, t, pos, after, some (j, w)⟩ = gO T w (ops[j]?) := by
  simp only [guardOf, List.getElem?_toArray]
  cases ops[j]? with
  | none => rfl
  | some x => obtain ⟨d, _, _, _, _, _⟩ := x; cases d <;> rfl
def gM : Option Bool → Option (Option Bool)
  | some b => some (some b)
  | none => none
theorem g_O {k : Nat} {g : Option (Nat × Bool)} : gO T w (some ⟨some k, o, t, pos, after, g⟩) = gM (guardB (nth T k) w) := by
  simp only [gO]; cases guardB (nth T k) w <;> rfl
theorem g_M {b : Bool} : gM (some b) = some (some b) := rfl
theorem g_bt {b : Bool} : guardB (.v (.bool b)) true = some b := by cases b <;> rfl
theorem g_bf {b : Bool} : guardB (.v (.bool b)) false = some (!b) := by cases b <;> rfl
theorem g_ct {B b : Bool} : guardB (.cnd B (.v (.bool b))) true = some (B && b) := by cases b <;> rfl
theorem g_cf {B b : Bool} : guardB (.cnd B (.v (.bool b))) false = some (B && !b) := by cases b <;> rfl
variable {st : St}
theorem k_move : callOf st (.move x) = none := rfl
theorem k_assign : callOf st (.assign x) = none := rfl
theorem k_box : callOf st (.box t x) = none := rfl
theorem k_load : callOf st (.load t x) = none := rfl
theorem k_nil : callOf st (.nilCheck x) = none := rfl
theorem k_un {o : UnOp} : callOf st (.unOp o t x) = none := rfl
theorem k_conv : callOf st (.convert t t' x) = none := rfl
theorem k_mi : callOf st (.makeInterface t x) = none := rfl
theorem k_fa : callOf st (.fieldAddr t x k) = none := rfl
theorem k_f : callOf st (.field t x k) = none := rfl
theorem k_ext : callOf st (.extract x k) = none := rfl
theorem k_pick : callOf st (.pick a b c) = none := rfl
theorem k_alloc : callOf st (.alloc t) = none := rfl
theorem k_store : callOf st (.store t a b) = none := rfl
theorem k_bin {o : BinOp} : callOf st (.binOp o t a b t') = none := rfl
theorem k_ia : callOf st (.indexAddr t a b) = none := rfl
theorem k_i : callOf st (.index t a b) = none := rfl
theorem k_build {ps : Array (Nat × Operand)} : callOf st (.build t ps) = none := rfl
theorem k_buildS {ps : Array (Nat × Operand)} : callOf st (.buildSlice t k ps) = none := rfl
theorem k_sl {l h m : Option Operand} : callOf st (.slice t x l h m) = none := rfl
theorem k_mf {f : Fn} {fs l : Array Operand} : callOf st (.makeFunc f fs l) = none := rfl
theorem k_callB {f : Builtin} {l : Array Operand} {ts : Array TypeId} : callOf st (.call ⟨.builtin f, l, ts⟩) = none := rfl
def cO (x : AV) (args : List AV) : Option (FuncId × List AV) :=
  match x with | .fn f cap => some (f, args ++ cap) | _ => none
theorem k_callV {l : List Operand} {ts : Array TypeId} : callOf ⟨T, H⟩ (.call ⟨.value x, List.toArray l, ts⟩) = cO (St.val ⟨T, H⟩ x).strip (vals ⟨T, H⟩ l) := by
  simp only [callOf, cO, vals_eq]; cases (St.val ⟨T, H⟩ x).strip <;> rfl
theorem k_O {f : FuncId} {args : List AV} : cO (.fn f []) args = some (f, args) := by simp [cO]
theorem k_OC {f : FuncId} {args cap : List AV} {x : AV} : cO (.fn f (x :: cap)) args = some (f, args ++ x :: cap) := rfl
theorem f_move : foot (.move x) val = [] := rfl
theorem f_assign : foot (.assign x) val = [] := rfl
theorem f_box : foot (.box t x) val = [] := rfl
theorem f_load : foot (.load t x) val = ptrIds (val x).strip := rfl
theorem f_nil : foot (.nilCheck x) val = [] := rfl
theorem f_un {o : UnOp} : foot (.unOp o t x) val = [] := rfl
theorem f_conv : foot (.convert t t' x) val = [] := rfl
theorem f_mi : foot (.makeInterface t x) val = [] := rfl
theorem f_fa : foot (.fieldAddr t x k) val = [] := rfl
theorem f_f : foot (.field t x k) val = [] := rfl
theorem f_ext : foot (.extract x k) val = [] := rfl
theorem f_pick : foot (.pick a b c) val = [] := rfl
theorem f_alloc : foot (.alloc t) val = [] := rfl
theorem f_store : foot (.store t a b) val = ptrIds (val a).strip := rfl
theorem f_bin {o : BinOp} : foot (.binOp o t a b t') val = [] := rfl
theorem f_ia : foot (.indexAddr t a b) val = [] := rfl
theorem f_i : foot (.index t a b) val = [] := rfl
theorem f_build {ps : Array (Nat × Operand)} : foot (.build t ps) val = [] := rfl
theorem f_buildS {ps : Array (Nat × Operand)} : foot (.buildSlice t k ps) val = [] := rfl
theorem f_sl {l h m : Option Operand} : foot (.slice t x l h m) val = ptrIds (val x).strip := rfl
theorem f_mf {f : Fn} {fs l : Array Operand} : foot (.makeFunc f fs l) val = [] := rfl
theorem f_len {l : Array Operand} {ts : Array TypeId} : foot (.call ⟨.builtin .len, l, ts⟩) val = [] := rfl
theorem f_min {l : Array Operand} {ts : Array TypeId} : foot (.call ⟨.builtin .min, l, ts⟩) val = [] := rfl
theorem f_max {l : Array Operand} {ts : Array TypeId} : foot (.call ⟨.builtin .max, l, ts⟩) val = [] := rfl
theorem f_app {ts : Array TypeId} : foot (.call ⟨.builtin .append, List.toArray [a, b], ts⟩) val = ptrIds (val a).strip := rfl
variable {v : Value} {i m n s : Nat} {l : List AV} {ls : List (List AV)}
theorem h_v : ptrIds (.v v) = [] := rfl
theorem h_ptr : ptrIds (.ptr i m) = [i] := rfl
theorem h_iptr : ptrIds (.iptr l m) = [] := rfl
theorem h_sln : ptrIds (.sl s ls .no) = [] := rfl
theorem h_slf : ptrIds (.sl s ls .full) = [] := rfl
theorem h_slt : ptrIds (.sl s ls (.tail i)) = [i] := rfl
theorem h_asl : ptrIds (.asl s ls) = [] := rfl
theorem h_bsl : ptrIds (.bsl i m n s) = [] := rfl
theorem h_agg : ptrIds (.agg l) = [] := rfl
end

end Go.Ev
