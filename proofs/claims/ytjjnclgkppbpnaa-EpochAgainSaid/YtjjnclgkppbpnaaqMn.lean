/-
The same entries make the same machine, and one that was loaded is the one that was written.
-/
import Derived.Test.YtjjnclgkppbpnaaqMl
set_option linter.unusedVariables false
set_option linter.unusedSimpArgs false
namespace Go.Proofs.Ytjjnclgkppbpnaa
open Go Go.Ev
inductive Mach (s : GEpoch) : List GEpoch → Prop
  | base : Mach s [s]
  | step {l : List GEpoch} {e : GEpoch} : Mach s l → fol (lastE l) e = true → Mach s (l ++ [e])
def ok2 : List GEpoch → List GEpoch → Prop
  | _, [] => True
  | pre, e :: m => chk e = true ∧ (pre = [] ∨ fol (lastE pre) e = true) ∧ ok2 (pre ++ [e]) m
theorem ok2_snoc {e : GEpoch} : ∀ (m pre : List GEpoch), ok2 pre m → chk e = true → (pre ++ m = [] ∨ fol (lastE (pre ++ m)) e = true) → ok2 pre (m ++ [e])
  | [], pre, _, h1, h2 => ⟨h1, by simpa using h2, trivial⟩
  | a :: m, pre, h, h1, h2 => ⟨h.1, h.2.1, ok2_snoc m (pre ++ [a]) h.2.2 h1 (by simpa using h2)⟩
theorem Mach.ok {s : GEpoch} (hs : chk s = true) (hn : s.Number = 0) {l : List GEpoch} (h : Mach s l) : l ≠ [] ∧ hd l = s ∧ ok2 [] l ∧ (∀ e ∈ l, chk e = true) ∧ (lastE l).Number + 1 = l.length ∧ chk (lastE l) = true := by
  induction h with
  | base => exact ⟨by simp, rfl, ⟨hs, .inl rfl, trivial⟩, by simpa using hs, by simp [lastE, lget, hn], by simpa [lastE, lget] using hs⟩
  | step h hf ih =>
    rename_i l e
    obtain ⟨a1, a2, a3, a4, a5, a6⟩ := ih
    have hc := (fol_chk hf).2
    refine ⟨by simp, ?_, ok2_snoc _ _ a3 hc (.inr (by simpa using hf)), ?_, ?_, by rw [lastE_snoc]; exact hc⟩
    · unfold hd at a2 ⊢
      cases l with
      | nil => exact absurd rfl a1
      | cons x r => exact a2
    · intro x hx
      rw [List.mem_append, List.mem_singleton] at hx
      rcases hx with hx | rfl
      · exact a4 x hx
      · exact hc
    · rw [lastE_snoc, fol_num hf, a5]; simp
theorem Mach.len {s : GEpoch} (hs : chk s = true) (hn : s.Number = 0) {l : List GEpoch} (h : Mach s l) : l.length ≤ 1024 := by
  obtain ⟨_, _, _, _, a5, a6⟩ := h.ok hs hn
  have := (chk_num a6).2
  omega
theorem ldP_back : ∀ (m pre : List GEpoch), ok2 pre m → ldP m.length pre ((m.map epB).flatten) = some (pre ++ m, [])
  | [], pre, _ => by simp [ldP]
  | e :: m, pre, h => by
    have hb := rdE_back (chk_may h.1) ((m.map epB).flatten)
    have e1 : rdE sm (0, epB e ++ (m.map epB).flatten) = (e, (0, (m.map epB).flatten)) := by
      show rdE sm (0, (epC e).flatten ++ (m.map epB).flatten) = _
      rw [rdE_of (fun n => sm_of) (by rw [hb]; exact h.1), hb]
    rw [List.length_cons, ldP, List.map_cons, List.flatten_cons, e1, if_pos ⟨rfl, h.1, h.2.1⟩]
    rw [ldP_back m (pre ++ [e]) h.2.2]; simp
theorem pI_bytes {n : Int} (h : R64 n) : ∀ x ∈ pI n, byteR x := vint_byte 9 _ (Nat.lt_trans (zig_lt h) (by decide))
theorem flat_bytes {l : List Int} (h : ∀ n ∈ l, R64 n) : ∀ x ∈ (l.map pI).flatten, byteR x := by
  intro x hx
  simp only [List.mem_flatten, List.mem_map] at hx
  obtain ⟨_, ⟨n, hn, rfl⟩, hx⟩ := hx
  exact pI_bytes (h n hn) x hx
theorem epB_bytes {e : GEpoch} (h : MayEp e) : ∀ x ∈ epB e, byteR x := by
  obtain ⟨h1, h2, h3⟩ := ep_states h
  unfold epB epC
  intro x hx
  simp only [List.flatten_append, List.map_cons, List.map_nil, List.flatten_cons, List.flatten_nil, List.append_nil, List.mem_append] at hx
  rcases hx with ((hx | hx) | hx) | hx
  · exact pI_bytes (cnt64 h.1) x hx
  · exact flat_bytes h1 x hx
  · exact flat_bytes h3 x hx
  · exact flat_bytes h2 x hx
theorem bytesM_ok {l : List GEpoch} (hl : l.length ≤ 1024) (h : ∀ e ∈ l, chk e = true) : okB (bytesM l) := by
  have hr : R64 (l.length : Int) := R64_len (by omega)
  refine ⟨?_, ?_⟩
  · have h1 := pI_len hr
    have h2 := flat_epB (l := l) fun e he => chk_may (h e he)
    unfold bytesM
    rw [List.length_append]; omega
  · intro x hx
    unfold bytesM at hx
    rw [List.mem_append] at hx
    rcases hx with hx | hx
    · exact pI_bytes hr x hx
    · simp only [List.mem_flatten, List.mem_map] at hx
      obtain ⟨_, ⟨e, he, rfl⟩, hx⟩ := hx
      exact epB_bytes (chk_may (h e he)) x hx
theorem mem_mems (e : GEpoch) (x : Int) : x ∈ mems e 8 ↔ ∃ j : Nat, j < 8 ∧ isM e j = true ∧ x = j := by
  unfold mems
  simp only [List.mem_map, List.mem_filter, List.mem_range]
  constructor
  · rintro ⟨j, ⟨h1, h2⟩, rfl⟩; exact ⟨j, h1, h2, rfl⟩
  · rintro ⟨j, h1, h2, rfl⟩; exact ⟨j, ⟨h1, h2⟩, rfl⟩
theorem isM_stS (l : List Int) {j : Nat} (hj : j < 8) : isM (stS l) j = inL l j := by
  have h1 : sta (stS l) j = if inL l j then 1 else 0 := ones_get _ hj
  unfold isM
  rw [h1]
  cases inL l j <;> rfl
theorem strt_back {l : List Int} (h0 : l ≠ []) (hs : ∀ x ∈ l, sit x) : strt (mems (stS l) 8) = (stS l, 0) := by
  have hmem : ∀ x, x ∈ mems (stS l) 8 ↔ x ∈ l := by
    intro x
    rw [mem_mems]
    constructor
    · rintro ⟨j, hj, hm, rfl⟩
      rw [isM_stS l hj] at hm
      exact (inL_iff l j).1 hm
    · intro hx
      have ⟨x0, x1⟩ := hs x hx
      refine ⟨x.toNat, by omega, ?_, by omega⟩
      rw [isM_stS l (by omega)]
      refine (inL_iff l _).2 ?_
      rw [show ((x.toNat : Nat) : Int) = x by omega]; exact hx
  have hnd : (mems (stS l) 8).Nodup := by
    unfold mems
    unfold List.Nodup
    rw [List.pairwise_map]
    have h8 : List.Pairwise (· ≠ ·) (List.range 8) := List.nodup_range
    exact (List.Pairwise.filter _ h8).imp (fun h he => h (Int.ofNat_inj.1 he))
  unfold strt
  rw [if_neg, if_neg (fun h => h hnd)]
  · unfold stS
    congr 2
    refine vext default fun j hj => ?_
    rw [ones_get _ hj, ones_get _ hj]
    have : inL (mems (stS l) 8) j = inL l j := by
      rw [Bool.eq_iff_iff, inL_iff, inL_iff, hmem]
    unfold stS at this
    rw [this]
  · simp only [not_or, Classical.not_not]
    refine ⟨?_, fun x hx => hs x ((hmem x).1 hx)⟩
    obtain ⟨x, hx⟩ := List.exists_mem_of_ne_nil l h0
    intro he
    have := (hmem x).2 hx
    rw [he] at this; cases this
theorem load_back {m : List Int} (h0 : m ≠ []) (hs : ∀ x ∈ m, sit x) {l : List GEpoch} (h : Mach (stS m) l) : loadP (bytesM l) = some l := by
  have hc := stS_chk h0 hs
  obtain ⟨a1, a2, a3, a4, a5, a6⟩ := h.ok hc rfl
  have hl := h.len hc rfl
  have hpos := List.length_pos_iff.2 a1
  unfold loadP bytesM
  have hr := rI_back (R64_len (n := l.length) (by omega)) ((l.map epB).flatten)
  unfold pI
  rw [hr]
  simp only
  rw [if_pos ⟨trivial, by omega, by omega⟩, Int.toNat_natCast, ldP_back l [] a3, Option.bind_some]
  show finP (l, []) = some l
  have : eqE (hd l) (strt (mems (hd l) 8)).1 = true := by
    rw [a2, strt_back h0 hs]
    exact eqE_self _
  unfold finP
  exact if_pos ⟨rfl, this⟩
end Go.Proofs.Ytjjnclgkppbpnaa
