/- What the functions of the program come to, in plain terms, part 2. -/
import Derived.Test.YtoiefmhmohhaeaaGreatQ1
set_option linter.all false
/- The program's checks: they come out. -/
set_option linter.unusedVariables false
set_option linter.unusedSimpArgs false
namespace Go.Proofs.YtoiefmhmohhaeaaGreat.VE

section
variable (hX : ExtFin tE)
include hX

theorem j_in {a b c : Int} : TB (VV 49 [.c (iD a), .c (iD b), .c (iD c)]) := (i_in hX).mono fun _ ⟨b, h, _⟩ => ⟨b, h⟩
theorem j_pt {a b : Int} : TB (VV 51 [.agg [iD a, iD b]]) := (i_pt hX).mono fun _ ⟨b, h, _⟩ => ⟨b, h⟩
theorem j_sg {a b c d : Int} : TB (VV 138 [.agg [iD a, iD b, iD c, iD d]]) := (i_sg hX).mono fun _ ⟨b, h, _⟩ => ⟨b, h⟩
theorem j_name {s : ByteArray} (hs : s.size ≤ 1000000) : TB (VV 129 [.c (sD s)]) := by
  rw [b129 hX, e129]
  suffices h : ∀ (k : Nat) (i : Int), 0 ≤ i → i ≤ s.size → s.size - i ≤ k → TB (VP 129 2 (s129_2 s s.size i)) from h s.size 0 (by omega) (by omega) (by omega)
  intro k
  induction k with
  | zero =>
    intro i h0 h1 hk
    rw [p129 hX, e129_2]
    refine Tot.cond (fun hx => ?_) fun hx => ?_
    · simp only [decide_eq_true_eq] at hx; omega
    · repeat' first
        | exact Tot.some ⟨_, rfl⟩
        | refine Tot.cond (fun _ => ?_) (fun _ => ?_)
        | exact j_in hX
        | (refine Tot.bind (j_in hX) ?_; rintro _ ⟨_, rfl⟩)
        | (first | ((with_reducible refine Tot.rI (n := ?_) ?_ ?_); rotate_left; exact rfl) | ((with_reducible refine Tot.rB (n := ?_) ?_ ?_); rotate_left; exact rfl) | ((with_reducible refine Tot.rS (n := ?_) ?_ ?_); rotate_left; exact rfl) | ((with_reducible refine Tot.rM (n := ?_) ?_ ?_); rotate_left; exact rfl) | ((with_reducible refine Tot.rO (n := ?_) ?_ ?_); rotate_left; exact rfl) | ((with_reducible refine Tot.dI (n := ?_) ?_ ?_); rotate_left; exact rfl) | ((with_reducible refine Tot.dB (n := ?_) ?_ ?_); rotate_left; exact rfl) | ((with_reducible refine Tot.dS (n := ?_) ?_ ?_); rotate_left; exact rfl) | ((with_reducible refine Tot.dL (n := ?_) (f := ?_) ?_ ?_); rotate_left 2; exact rfl))
  | succ k ih =>
    intro i h0 h1 hk
    rw [p129 hX, e129_2]
    refine Tot.cond (fun hx => ?_) fun hx => ?_
    · simp only [decide_eq_true_eq] at hx
      refine Tot.getB h0 hx fun b _ => Tot.cond (fun _ => .some ⟨_, rfl⟩) fun _ => ?_
      refine Tot.getB h0 hx fun b _ => Tot.cond (fun _ => .some ⟨_, rfl⟩) fun _ => ?_
      rw [w64 (x := i + 1) (by omega) (by omega)]
      exact ih _ (by omega) (by omega) (by omega)
    · repeat' first
        | exact Tot.some ⟨_, rfl⟩
        | refine Tot.cond (fun _ => ?_) (fun _ => ?_)
        | exact j_in hX
        | (refine Tot.bind (j_in hX) ?_; rintro _ ⟨_, rfl⟩)
        | (first | ((with_reducible refine Tot.rI (n := ?_) ?_ ?_); rotate_left; exact rfl) | ((with_reducible refine Tot.rB (n := ?_) ?_ ?_); rotate_left; exact rfl) | ((with_reducible refine Tot.rS (n := ?_) ?_ ?_); rotate_left; exact rfl) | ((with_reducible refine Tot.rM (n := ?_) ?_ ?_); rotate_left; exact rfl) | ((with_reducible refine Tot.rO (n := ?_) ?_ ?_); rotate_left; exact rfl) | ((with_reducible refine Tot.dI (n := ?_) ?_ ?_); rotate_left; exact rfl) | ((with_reducible refine Tot.dB (n := ?_) ?_ ?_); rotate_left; exact rfl) | ((with_reducible refine Tot.dS (n := ?_) ?_ ?_); rotate_left; exact rfl) | ((with_reducible refine Tot.dL (n := ?_) (f := ?_) ?_ ?_); rotate_left 2; exact rfl))
theorem j_line {l : List Rw} (hl : Po l) (hn : l.length ≤ 1000) : TB (VV 171 [.c (.s false l)]) := by
  rw [b171 hX, e171]
  refine Tot.cond (fun _ => .some ⟨_, rfl⟩) fun _ => Tot.cond (fun _ => .some ⟨_, rfl⟩) fun _ => ?_
  suffices h : ∀ (k : Nat) (i : Int), 0 ≤ i → i ≤ l.length → l.length - i ≤ k → TB (VP 171 4 (s171_4 l l l.length i)) from h l.length 0 (by omega) (by omega) (by omega)
  intro k
  induction k with
  | zero =>
    intro i h0 h1 hk
    rw [p171 hX, e171_4]
    refine Tot.cond (fun hx => ?_) fun hx => .some ⟨_, rfl⟩
    simp only [decide_eq_true_eq] at hx; omega
  | succ k ih =>
    intro i h0 h1 hk
    rw [p171 hX, e171_4]
    refine Tot.cond (fun hx => ?_) fun hx => .some ⟨_, rfl⟩
    simp only [decide_eq_true_eq] at hx
    refine Tot.getE h0 hx hl.two fun r _ hr => ?_
    obtain ⟨x, y, rfl⟩ := hl r hr
    repeat (first | ((with_reducible refine Tot.rI (n := ?_) ?_ ?_); rotate_left; exact rfl) | ((with_reducible refine Tot.rB (n := ?_) ?_ ?_); rotate_left; exact rfl) | ((with_reducible refine Tot.rS (n := ?_) ?_ ?_); rotate_left; exact rfl) | ((with_reducible refine Tot.rM (n := ?_) ?_ ?_); rotate_left; exact rfl) | ((with_reducible refine Tot.rO (n := ?_) ?_ ?_); rotate_left; exact rfl) | ((with_reducible refine Tot.dI (n := ?_) ?_ ?_); rotate_left; exact rfl) | ((with_reducible refine Tot.dB (n := ?_) ?_ ?_); rotate_left; exact rfl) | ((with_reducible refine Tot.dS (n := ?_) ?_ ?_); rotate_left; exact rfl) | ((with_reducible refine Tot.dL (n := ?_) (f := ?_) ?_ ?_); rotate_left 2; exact rfl))
    refine Tot.bind (j_pt hX) ?_
    rintro _ ⟨b, rfl⟩
    repeat (first | ((with_reducible refine Tot.rI (n := ?_) ?_ ?_); rotate_left; exact rfl) | ((with_reducible refine Tot.rB (n := ?_) ?_ ?_); rotate_left; exact rfl) | ((with_reducible refine Tot.rS (n := ?_) ?_ ?_); rotate_left; exact rfl) | ((with_reducible refine Tot.rM (n := ?_) ?_ ?_); rotate_left; exact rfl) | ((with_reducible refine Tot.rO (n := ?_) ?_ ?_); rotate_left; exact rfl) | ((with_reducible refine Tot.dI (n := ?_) ?_ ?_); rotate_left; exact rfl) | ((with_reducible refine Tot.dB (n := ?_) ?_ ?_); rotate_left; exact rfl) | ((with_reducible refine Tot.dS (n := ?_) ?_ ?_); rotate_left; exact rfl) | ((with_reducible refine Tot.dL (n := ?_) (f := ?_) ?_ ?_); rotate_left 2; exact rfl))
    rw [w64 (x := i + 1) (by omega) (by omega)]
    refine Tot.cond (fun _ => .some ⟨_, rfl⟩) fun _ => ?_
    refine Tot.cond (fun hx2 => ?_) fun _ => ih _ (by omega) (by omega) (by omega)
    simp only [decide_eq_true_eq] at hx2
    rw [w64 (x := i - 1) (by omega) (by omega)]
    refine Tot.getE (by omega) (by omega) hl.two fun r _ hr => ?_
    obtain ⟨x, y, rfl⟩ := hl r hr
    repeat (first | ((with_reducible refine Tot.rI (n := ?_) ?_ ?_); rotate_left; exact rfl) | ((with_reducible refine Tot.rB (n := ?_) ?_ ?_); rotate_left; exact rfl) | ((with_reducible refine Tot.rS (n := ?_) ?_ ?_); rotate_left; exact rfl) | ((with_reducible refine Tot.rM (n := ?_) ?_ ?_); rotate_left; exact rfl) | ((with_reducible refine Tot.rO (n := ?_) ?_ ?_); rotate_left; exact rfl) | ((with_reducible refine Tot.dI (n := ?_) ?_ ?_); rotate_left; exact rfl) | ((with_reducible refine Tot.dB (n := ?_) ?_ ?_); rotate_left; exact rfl) | ((with_reducible refine Tot.dS (n := ?_) ?_ ?_); rotate_left; exact rfl) | ((with_reducible refine Tot.dL (n := ?_) (f := ?_) ?_ ?_); rotate_left 2; exact rfl))
    exact Tot.cond (fun _ => .some ⟨_, rfl⟩) fun _ => ih _ (by omega) (by omega) (by omega)
theorem j_segs {l : List Rw} (hl : Po l) (hn : l.length ≤ 1000) : Tot (VV 136 [.c (.s false l)]) fun r => ∃ m, r = [.own m] ∧ Se m ∧ m.length ≤ l.length := by
  rw [b136 hX, e136]
  refine Tot.bind (j_line hX hl hn) ?_
  rintro _ ⟨b, rfl⟩
  repeat (first | ((with_reducible refine Tot.rI (n := ?_) ?_ ?_); rotate_left; exact rfl) | ((with_reducible refine Tot.rB (n := ?_) ?_ ?_); rotate_left; exact rfl) | ((with_reducible refine Tot.rS (n := ?_) ?_ ?_); rotate_left; exact rfl) | ((with_reducible refine Tot.rM (n := ?_) ?_ ?_); rotate_left; exact rfl) | ((with_reducible refine Tot.rO (n := ?_) ?_ ?_); rotate_left; exact rfl) | ((with_reducible refine Tot.dI (n := ?_) ?_ ?_); rotate_left; exact rfl) | ((with_reducible refine Tot.dB (n := ?_) ?_ ?_); rotate_left; exact rfl) | ((with_reducible refine Tot.dS (n := ?_) ?_ ?_); rotate_left; exact rfl) | ((with_reducible refine Tot.dL (n := ?_) (f := ?_) ?_ ?_); rotate_left 2; exact rfl))
  refine Tot.cond (fun _ => .some ⟨_, rfl, Se.nil, by simp⟩) fun _ => ?_
  suffices h : ∀ (k : Nat) (i : Int) (m : List Rw), 1 ≤ i → Se m → (m.length + 1 : Int) = i → m.length ≤ l.length → l.length - i ≤ k → Tot (VP 136 5 (s136_5 l i m)) fun r => ∃ m, r = [.own m] ∧ Se m ∧ m.length ≤ l.length from h l.length 1 [] (by omega) Se.nil (by simp) (by simp) (by omega)
  intro k
  induction k with
  | zero =>
    intro i m h0 hm h1 h2 hk
    rw [p136 hX, e136_5]
    refine Tot.cond (fun hx => ?_) fun hx => .some ⟨_, rfl, hm, h2⟩
    simp only [decide_eq_true_eq] at hx; omega
  | succ k ih =>
    intro i m h0 hm h1 h2 hk
    rw [p136 hX, e136_5]
    refine Tot.cond (fun hx => ?_) fun hx => .some ⟨_, rfl, hm, h2⟩
    simp only [decide_eq_true_eq] at hx
    rw [w64 (x := i - 1) (by omega) (by omega), w64 (x := i + 1) (by omega) (by omega)]
    refine Tot.getE (by omega) (by omega) hl.two fun r _ hr => ?_
    obtain ⟨x, y, rfl⟩ := hl r hr
    repeat (first | ((with_reducible refine Tot.rI (n := ?_) ?_ ?_); rotate_left; exact rfl) | ((with_reducible refine Tot.rB (n := ?_) ?_ ?_); rotate_left; exact rfl) | ((with_reducible refine Tot.rS (n := ?_) ?_ ?_); rotate_left; exact rfl) | ((with_reducible refine Tot.rM (n := ?_) ?_ ?_); rotate_left; exact rfl) | ((with_reducible refine Tot.rO (n := ?_) ?_ ?_); rotate_left; exact rfl) | ((with_reducible refine Tot.dI (n := ?_) ?_ ?_); rotate_left; exact rfl) | ((with_reducible refine Tot.dB (n := ?_) ?_ ?_); rotate_left; exact rfl) | ((with_reducible refine Tot.dS (n := ?_) ?_ ?_); rotate_left; exact rfl) | ((with_reducible refine Tot.dL (n := ?_) (f := ?_) ?_ ?_); rotate_left 2; exact rfl))
    refine Tot.getE (by omega) hx hl.two fun r _ hr => ?_
    obtain ⟨x, y, rfl⟩ := hl r hr
    repeat (first | ((with_reducible refine Tot.rI (n := ?_) ?_ ?_); rotate_left; exact rfl) | ((with_reducible refine Tot.rB (n := ?_) ?_ ?_); rotate_left; exact rfl) | ((with_reducible refine Tot.rS (n := ?_) ?_ ?_); rotate_left; exact rfl) | ((with_reducible refine Tot.rM (n := ?_) ?_ ?_); rotate_left; exact rfl) | ((with_reducible refine Tot.rO (n := ?_) ?_ ?_); rotate_left; exact rfl) | ((with_reducible refine Tot.dI (n := ?_) ?_ ?_); rotate_left; exact rfl) | ((with_reducible refine Tot.dB (n := ?_) ?_ ?_); rotate_left; exact rfl) | ((with_reducible refine Tot.dS (n := ?_) ?_ ?_); rotate_left; exact rfl) | ((with_reducible refine Tot.dL (n := ?_) (f := ?_) ?_ ?_); rotate_left 2; exact rfl))
    refine Tot.chk (by simp only [List.length_cons, List.length_nil]; omega) ?_
    refine ih _ _ ?_ (hm.app Se.one) ?_ ?_ ?_ <;> (try simp only [List.length_append, List.length_cons, List.length_nil]) <;> omega
theorem j_cross {a b c d e f : Int} : TN (VV 177 [.agg [iD a, iD b], .agg [iD c, iD d], .agg [iD e, iD f]]) := by
  rw [b177 hX, e177]
  repeat' first
    | exact Tot.some ⟨_, rfl⟩
    | refine Tot.cond (fun _ => ?_) (fun _ => ?_)
    | (first | ((with_reducible refine Tot.rI (n := ?_) ?_ ?_); rotate_left; exact rfl) | ((with_reducible refine Tot.rB (n := ?_) ?_ ?_); rotate_left; exact rfl) | ((with_reducible refine Tot.rS (n := ?_) ?_ ?_); rotate_left; exact rfl) | ((with_reducible refine Tot.rM (n := ?_) ?_ ?_); rotate_left; exact rfl) | ((with_reducible refine Tot.rO (n := ?_) ?_ ?_); rotate_left; exact rfl) | ((with_reducible refine Tot.dI (n := ?_) ?_ ?_); rotate_left; exact rfl) | ((with_reducible refine Tot.dB (n := ?_) ?_ ?_); rotate_left; exact rfl) | ((with_reducible refine Tot.dS (n := ?_) ?_ ?_); rotate_left; exact rfl) | ((with_reducible refine Tot.dL (n := ?_) (f := ?_) ?_ ?_); rotate_left 2; exact rfl))
theorem j_nan {a : Int} : TB (VV 106 [.c (iD a)]) := by
  rw [b106 hX, e106]
  repeat' first
    | exact Tot.some ⟨_, rfl⟩
    | refine Tot.cond (fun _ => ?_) (fun _ => ?_)
    | (first | ((with_reducible refine Tot.rI (n := ?_) ?_ ?_); rotate_left; exact rfl) | ((with_reducible refine Tot.rB (n := ?_) ?_ ?_); rotate_left; exact rfl) | ((with_reducible refine Tot.rS (n := ?_) ?_ ?_); rotate_left; exact rfl) | ((with_reducible refine Tot.rM (n := ?_) ?_ ?_); rotate_left; exact rfl) | ((with_reducible refine Tot.rO (n := ?_) ?_ ?_); rotate_left; exact rfl) | ((with_reducible refine Tot.dI (n := ?_) ?_ ?_); rotate_left; exact rfl) | ((with_reducible refine Tot.dB (n := ?_) ?_ ?_); rotate_left; exact rfl) | ((with_reducible refine Tot.dS (n := ?_) ?_ ?_); rotate_left; exact rfl) | ((with_reducible refine Tot.dL (n := ?_) (f := ?_) ?_ ?_); rotate_left 2; exact rfl))
theorem j_cmp {a b : Int} : TN (VV 62 [.c (iD a), .c (iD b)]) := by
  rw [b62 hX, e62]
  repeat' first
    | exact Tot.some ⟨_, rfl⟩
    | refine Tot.cond (fun _ => ?_) (fun _ => ?_)
    | exact j_nan hX
    | (refine Tot.bind (j_nan hX) ?_; rintro _ ⟨_, rfl⟩)
    | (first | ((with_reducible refine Tot.rI (n := ?_) ?_ ?_); rotate_left; exact rfl) | ((with_reducible refine Tot.rB (n := ?_) ?_ ?_); rotate_left; exact rfl) | ((with_reducible refine Tot.rS (n := ?_) ?_ ?_); rotate_left; exact rfl) | ((with_reducible refine Tot.rM (n := ?_) ?_ ?_); rotate_left; exact rfl) | ((with_reducible refine Tot.rO (n := ?_) ?_ ?_); rotate_left; exact rfl) | ((with_reducible refine Tot.dI (n := ?_) ?_ ?_); rotate_left; exact rfl) | ((with_reducible refine Tot.dB (n := ?_) ?_ ?_); rotate_left; exact rfl) | ((with_reducible refine Tot.dS (n := ?_) ?_ ?_); rotate_left; exact rfl) | ((with_reducible refine Tot.dL (n := ?_) (f := ?_) ?_ ?_); rotate_left 2; exact rfl))
theorem j_side {a b c d e f : Int} : TN (VV 141 [.agg [iD a, iD b], .agg [iD c, iD d], .agg [iD e, iD f]]) := by
  rw [b141 hX, e141]
  repeat' first
    | exact Tot.some ⟨_, rfl⟩
    | refine Tot.cond (fun _ => ?_) (fun _ => ?_)
    | exact j_pt hX
    | (refine Tot.bind (j_pt hX) ?_; rintro _ ⟨_, rfl⟩)
    | exact j_cross hX
    | (refine Tot.bind (j_cross hX) ?_; rintro _ ⟨_, rfl⟩)
    | exact j_cmp hX
    | (refine Tot.bind (j_cmp hX) ?_; rintro _ ⟨_, rfl⟩)
    | (first | ((with_reducible refine Tot.rI (n := ?_) ?_ ?_); rotate_left; exact rfl) | ((with_reducible refine Tot.rB (n := ?_) ?_ ?_); rotate_left; exact rfl) | ((with_reducible refine Tot.rS (n := ?_) ?_ ?_); rotate_left; exact rfl) | ((with_reducible refine Tot.rM (n := ?_) ?_ ?_); rotate_left; exact rfl) | ((with_reducible refine Tot.rO (n := ?_) ?_ ?_); rotate_left; exact rfl) | ((with_reducible refine Tot.dI (n := ?_) ?_ ?_); rotate_left; exact rfl) | ((with_reducible refine Tot.dB (n := ?_) ?_ ?_); rotate_left; exact rfl) | ((with_reducible refine Tot.dS (n := ?_) ?_ ?_); rotate_left; exact rfl) | ((with_reducible refine Tot.dL (n := ?_) (f := ?_) ?_ ?_); rotate_left 2; exact rfl))
theorem j_before {a b c d : Int} : TB (VV 199 [.agg [iD a, iD b], .agg [iD c, iD d]]) := by
  rw [b199 hX, e199]
  repeat' first
    | exact Tot.some ⟨_, rfl⟩
    | refine Tot.cond (fun _ => ?_) (fun _ => ?_)
    | (first | ((with_reducible refine Tot.rI (n := ?_) ?_ ?_); rotate_left; exact rfl) | ((with_reducible refine Tot.rB (n := ?_) ?_ ?_); rotate_left; exact rfl) | ((with_reducible refine Tot.rS (n := ?_) ?_ ?_); rotate_left; exact rfl) | ((with_reducible refine Tot.rM (n := ?_) ?_ ?_); rotate_left; exact rfl) | ((with_reducible refine Tot.rO (n := ?_) ?_ ?_); rotate_left; exact rfl) | ((with_reducible refine Tot.dI (n := ?_) ?_ ?_); rotate_left; exact rfl) | ((with_reducible refine Tot.dB (n := ?_) ?_ ?_); rotate_left; exact rfl) | ((with_reducible refine Tot.dS (n := ?_) ?_ ?_); rotate_left; exact rfl) | ((with_reducible refine Tot.dL (n := ?_) (f := ?_) ?_ ?_); rotate_left 2; exact rfl))
theorem j_forward {a b c d : Int} : Tot (VV 198 [.agg [iD a, iD b, iD c, iD d]]) fun r => ∃ x y z u, r = [iR x, iR y, iR z, iR u] := by
  rw [b198 hX, e198]
  refine Tot.bind (j_before hX) ?_
  rintro _ ⟨bb, rfl⟩
  repeat (first | ((with_reducible refine Tot.rI (n := ?_) ?_ ?_); rotate_left; exact rfl) | ((with_reducible refine Tot.rB (n := ?_) ?_ ?_); rotate_left; exact rfl) | ((with_reducible refine Tot.rS (n := ?_) ?_ ?_); rotate_left; exact rfl) | ((with_reducible refine Tot.rM (n := ?_) ?_ ?_); rotate_left; exact rfl) | ((with_reducible refine Tot.rO (n := ?_) ?_ ?_); rotate_left; exact rfl) | ((with_reducible refine Tot.dI (n := ?_) ?_ ?_); rotate_left; exact rfl) | ((with_reducible refine Tot.dB (n := ?_) ?_ ?_); rotate_left; exact rfl) | ((with_reducible refine Tot.dS (n := ?_) ?_ ?_); rotate_left; exact rfl) | ((with_reducible refine Tot.dL (n := ?_) (f := ?_) ?_ ?_); rotate_left 2; exact rfl))
  refine Tot.cond (fun _ => ?_) fun _ => .some ⟨_, _, _, _, rfl⟩
  have h : Tot (VV 211 [.agg [iD a, iD b, iD c, iD d]]) fun r => r = [iR c, iR d, iR a, iR b] := by
    rw [b211 hX, e211]
    exact .some rfl
  refine Tot.bind (h) ?_
  rintro _ rfl
  repeat (first | ((with_reducible refine Tot.rI (n := ?_) ?_ ?_); rotate_left; exact rfl) | ((with_reducible refine Tot.rB (n := ?_) ?_ ?_); rotate_left; exact rfl) | ((with_reducible refine Tot.rS (n := ?_) ?_ ?_); rotate_left; exact rfl) | ((with_reducible refine Tot.rM (n := ?_) ?_ ?_); rotate_left; exact rfl) | ((with_reducible refine Tot.rO (n := ?_) ?_ ?_); rotate_left; exact rfl) | ((with_reducible refine Tot.dI (n := ?_) ?_ ?_); rotate_left; exact rfl) | ((with_reducible refine Tot.dB (n := ?_) ?_ ?_); rotate_left; exact rfl) | ((with_reducible refine Tot.dS (n := ?_) ?_ ?_); rotate_left; exact rfl) | ((with_reducible refine Tot.dL (n := ?_) (f := ?_) ?_ ?_); rotate_left 2; exact rfl))
  exact .some ⟨_, _, _, _, rfl⟩
theorem j_ison {a b c d e f : Int} : TB (VV 200 [.agg [iD a, iD b, iD c, iD d], .agg [iD e, iD f]]) := by
  rw [b200 hX, e200]
  repeat' first
    | exact Tot.some ⟨_, rfl⟩
    | refine Tot.cond (fun _ => ?_) (fun _ => ?_)
    | exact j_sg hX
    | (refine Tot.bind (j_sg hX) ?_; rintro _ ⟨_, rfl⟩)
    | exact j_pt hX
    | (refine Tot.bind (j_pt hX) ?_; rintro _ ⟨_, rfl⟩)
    | exact j_side hX
    | (refine Tot.bind (j_side hX) ?_; rintro _ ⟨_, rfl⟩)
    | exact j_in hX
    | (refine Tot.bind (j_in hX) ?_; rintro _ ⟨_, rfl⟩)
    | (first | ((with_reducible refine Tot.rI (n := ?_) ?_ ?_); rotate_left; exact rfl) | ((with_reducible refine Tot.rB (n := ?_) ?_ ?_); rotate_left; exact rfl) | ((with_reducible refine Tot.rS (n := ?_) ?_ ?_); rotate_left; exact rfl) | ((with_reducible refine Tot.rM (n := ?_) ?_ ?_); rotate_left; exact rfl) | ((with_reducible refine Tot.rO (n := ?_) ?_ ?_); rotate_left; exact rfl) | ((with_reducible refine Tot.dI (n := ?_) ?_ ?_); rotate_left; exact rfl) | ((with_reducible refine Tot.dB (n := ?_) ?_ ?_); rotate_left; exact rfl) | ((with_reducible refine Tot.dS (n := ?_) ?_ ?_); rotate_left; exact rfl) | ((with_reducible refine Tot.dL (n := ?_) (f := ?_) ?_ ?_); rotate_left 2; exact rfl))
theorem j_howmeet {a b c d e f g h : Int} : TN (VV 172 [.agg [iD a, iD b, iD c, iD d], .agg [iD e, iD f, iD g, iD h]]) := by
  rw [b172 hX, e172]
  have h11 : ∀ p q r s : Int, TN (VP 172 11 (s172_11 p q r s)) := by
    intro p q r s
    rw [p172 hX, e172_11]
    repeat' first
      | exact Tot.some ⟨_, rfl⟩
      | refine Tot.cond (fun _ => ?_) (fun _ => ?_)
      | exact j_before hX
      | (refine Tot.bind (j_before hX) ?_; rintro _ ⟨_, rfl⟩)
      | (first | ((with_reducible refine Tot.rI (n := ?_) ?_ ?_); rotate_left; exact rfl) | ((with_reducible refine Tot.rB (n := ?_) ?_ ?_); rotate_left; exact rfl) | ((with_reducible refine Tot.rS (n := ?_) ?_ ?_); rotate_left; exact rfl) | ((with_reducible refine Tot.rM (n := ?_) ?_ ?_); rotate_left; exact rfl) | ((with_reducible refine Tot.rO (n := ?_) ?_ ?_); rotate_left; exact rfl) | ((with_reducible refine Tot.dI (n := ?_) ?_ ?_); rotate_left; exact rfl) | ((with_reducible refine Tot.dB (n := ?_) ?_ ?_); rotate_left; exact rfl) | ((with_reducible refine Tot.dS (n := ?_) ?_ ?_); rotate_left; exact rfl) | ((with_reducible refine Tot.dL (n := ?_) (f := ?_) ?_ ?_); rotate_left 2; exact rfl))
  have h9 : ∀ p q r s t u v w : Int, TN (VP 172 9 (s172_9 p q r s t u v w)) := by
    intro p q r s t u v w
    rw [p172 hX, e172_9]
    repeat' first
      | exact Tot.some ⟨_, rfl⟩
      | refine Tot.cond (fun _ => ?_) (fun _ => ?_)
      | exact j_before hX
      | (refine Tot.bind (j_before hX) ?_; rintro _ ⟨_, rfl⟩)
      | exact h11 _ _ _ _
      | (refine Tot.bind (h11 _ _ _ _) ?_; rintro _ ⟨_, rfl⟩)
      | (first | ((with_reducible refine Tot.rI (n := ?_) ?_ ?_); rotate_left; exact rfl) | ((with_reducible refine Tot.rB (n := ?_) ?_ ?_); rotate_left; exact rfl) | ((with_reducible refine Tot.rS (n := ?_) ?_ ?_); rotate_left; exact rfl) | ((with_reducible refine Tot.rM (n := ?_) ?_ ?_); rotate_left; exact rfl) | ((with_reducible refine Tot.rO (n := ?_) ?_ ?_); rotate_left; exact rfl) | ((with_reducible refine Tot.dI (n := ?_) ?_ ?_); rotate_left; exact rfl) | ((with_reducible refine Tot.dB (n := ?_) ?_ ?_); rotate_left; exact rfl) | ((with_reducible refine Tot.dS (n := ?_) ?_ ?_); rotate_left; exact rfl) | ((with_reducible refine Tot.dL (n := ?_) (f := ?_) ?_ ?_); rotate_left 2; exact rfl))
  have h18 : ∀ p q r s t u v w : Int, TN (VP 172 18 (s172_18 p q r s t u v w)) := by
    intro p q r s t u v w
    rw [p172 hX, e172_18]
    repeat' first
      | exact Tot.some ⟨_, rfl⟩
      | refine Tot.cond (fun _ => ?_) (fun _ => ?_)
      | exact j_ison hX
      | (refine Tot.bind (j_ison hX) ?_; rintro _ ⟨_, rfl⟩)
      | (first | ((with_reducible refine Tot.rI (n := ?_) ?_ ?_); rotate_left; exact rfl) | ((with_reducible refine Tot.rB (n := ?_) ?_ ?_); rotate_left; exact rfl) | ((with_reducible refine Tot.rS (n := ?_) ?_ ?_); rotate_left; exact rfl) | ((with_reducible refine Tot.rM (n := ?_) ?_ ?_); rotate_left; exact rfl) | ((with_reducible refine Tot.rO (n := ?_) ?_ ?_); rotate_left; exact rfl) | ((with_reducible refine Tot.dI (n := ?_) ?_ ?_); rotate_left; exact rfl) | ((with_reducible refine Tot.dB (n := ?_) ?_ ?_); rotate_left; exact rfl) | ((with_reducible refine Tot.dS (n := ?_) ?_ ?_); rotate_left; exact rfl) | ((with_reducible refine Tot.dL (n := ?_) (f := ?_) ?_ ?_); rotate_left 2; exact rfl))
  have h16 : ∀ x y p q r s t u v w : Int, TN (VP 172 16 (s172_16 x y p q r s t u v w)) := by
    intro x y p q r s t u v w
    rw [p172 hX, e172_16]
    repeat' first
      | exact Tot.some ⟨_, rfl⟩
      | refine Tot.cond (fun _ => ?_) (fun _ => ?_)
      | exact j_side hX
      | (refine Tot.bind (j_side hX) ?_; rintro _ ⟨_, rfl⟩)
      | exact h18 _ _ _ _ _ _ _ _
      | (refine Tot.bind (h18 _ _ _ _ _ _ _ _) ?_; rintro _ ⟨_, rfl⟩)
      | (first | ((with_reducible refine Tot.rI (n := ?_) ?_ ?_); rotate_left; exact rfl) | ((with_reducible refine Tot.rB (n := ?_) ?_ ?_); rotate_left; exact rfl) | ((with_reducible refine Tot.rS (n := ?_) ?_ ?_); rotate_left; exact rfl) | ((with_reducible refine Tot.rM (n := ?_) ?_ ?_); rotate_left; exact rfl) | ((with_reducible refine Tot.rO (n := ?_) ?_ ?_); rotate_left; exact rfl) | ((with_reducible refine Tot.dI (n := ?_) ?_ ?_); rotate_left; exact rfl) | ((with_reducible refine Tot.dB (n := ?_) ?_ ?_); rotate_left; exact rfl) | ((with_reducible refine Tot.dS (n := ?_) ?_ ?_); rotate_left; exact rfl) | ((with_reducible refine Tot.dL (n := ?_) (f := ?_) ?_ ?_); rotate_left 2; exact rfl))
  have h3 : TN (VP 172 3 (s172_3 a b c d e f g h)) := by
    rw [p172 hX, e172_3]
    refine Tot.bind (j_side hX) ?_
    rintro _ ⟨_, rfl⟩
    repeat (first | ((with_reducible refine Tot.rI (n := ?_) ?_ ?_); rotate_left; exact rfl) | ((with_reducible refine Tot.rB (n := ?_) ?_ ?_); rotate_left; exact rfl) | ((with_reducible refine Tot.rS (n := ?_) ?_ ?_); rotate_left; exact rfl) | ((with_reducible refine Tot.rM (n := ?_) ?_ ?_); rotate_left; exact rfl) | ((with_reducible refine Tot.rO (n := ?_) ?_ ?_); rotate_left; exact rfl) | ((with_reducible refine Tot.dI (n := ?_) ?_ ?_); rotate_left; exact rfl) | ((with_reducible refine Tot.dB (n := ?_) ?_ ?_); rotate_left; exact rfl) | ((with_reducible refine Tot.dS (n := ?_) ?_ ?_); rotate_left; exact rfl) | ((with_reducible refine Tot.dL (n := ?_) (f := ?_) ?_ ?_); rotate_left 2; exact rfl))
    refine Tot.bind (j_side hX) ?_
    rintro _ ⟨_, rfl⟩
    repeat (first | ((with_reducible refine Tot.rI (n := ?_) ?_ ?_); rotate_left; exact rfl) | ((with_reducible refine Tot.rB (n := ?_) ?_ ?_); rotate_left; exact rfl) | ((with_reducible refine Tot.rS (n := ?_) ?_ ?_); rotate_left; exact rfl) | ((with_reducible refine Tot.rM (n := ?_) ?_ ?_); rotate_left; exact rfl) | ((with_reducible refine Tot.rO (n := ?_) ?_ ?_); rotate_left; exact rfl) | ((with_reducible refine Tot.dI (n := ?_) ?_ ?_); rotate_left; exact rfl) | ((with_reducible refine Tot.dB (n := ?_) ?_ ?_); rotate_left; exact rfl) | ((with_reducible refine Tot.dS (n := ?_) ?_ ?_); rotate_left; exact rfl) | ((with_reducible refine Tot.dL (n := ?_) (f := ?_) ?_ ?_); rotate_left 2; exact rfl))
    refine Tot.cond (fun _ => Tot.cond (fun _ => ?_) fun _ => h16 _ _ _ _ _ _ _ _ _ _) fun _ => h16 _ _ _ _ _ _ _ _ _ _
    refine Tot.bind (j_forward hX) ?_
    rintro _ ⟨_, _, _, _, rfl⟩
    repeat (first | ((with_reducible refine Tot.rI (n := ?_) ?_ ?_); rotate_left; exact rfl) | ((with_reducible refine Tot.rB (n := ?_) ?_ ?_); rotate_left; exact rfl) | ((with_reducible refine Tot.rS (n := ?_) ?_ ?_); rotate_left; exact rfl) | ((with_reducible refine Tot.rM (n := ?_) ?_ ?_); rotate_left; exact rfl) | ((with_reducible refine Tot.rO (n := ?_) ?_ ?_); rotate_left; exact rfl) | ((with_reducible refine Tot.dI (n := ?_) ?_ ?_); rotate_left; exact rfl) | ((with_reducible refine Tot.dB (n := ?_) ?_ ?_); rotate_left; exact rfl) | ((with_reducible refine Tot.dS (n := ?_) ?_ ?_); rotate_left; exact rfl) | ((with_reducible refine Tot.dL (n := ?_) (f := ?_) ?_ ?_); rotate_left 2; exact rfl))
    refine Tot.bind (j_forward hX) ?_
    rintro _ ⟨_, _, _, _, rfl⟩
    repeat (first | ((with_reducible refine Tot.rI (n := ?_) ?_ ?_); rotate_left; exact rfl) | ((with_reducible refine Tot.rB (n := ?_) ?_ ?_); rotate_left; exact rfl) | ((with_reducible refine Tot.rS (n := ?_) ?_ ?_); rotate_left; exact rfl) | ((with_reducible refine Tot.rM (n := ?_) ?_ ?_); rotate_left; exact rfl) | ((with_reducible refine Tot.rO (n := ?_) ?_ ?_); rotate_left; exact rfl) | ((with_reducible refine Tot.dI (n := ?_) ?_ ?_); rotate_left; exact rfl) | ((with_reducible refine Tot.dB (n := ?_) ?_ ?_); rotate_left; exact rfl) | ((with_reducible refine Tot.dS (n := ?_) ?_ ?_); rotate_left; exact rfl) | ((with_reducible refine Tot.dL (n := ?_) (f := ?_) ?_ ?_); rotate_left 2; exact rfl))
    refine Tot.bind (j_before hX) ?_
    rintro _ ⟨_, rfl⟩
    repeat (first | ((with_reducible refine Tot.rI (n := ?_) ?_ ?_); rotate_left; exact rfl) | ((with_reducible refine Tot.rB (n := ?_) ?_ ?_); rotate_left; exact rfl) | ((with_reducible refine Tot.rS (n := ?_) ?_ ?_); rotate_left; exact rfl) | ((with_reducible refine Tot.rM (n := ?_) ?_ ?_); rotate_left; exact rfl) | ((with_reducible refine Tot.rO (n := ?_) ?_ ?_); rotate_left; exact rfl) | ((with_reducible refine Tot.dI (n := ?_) ?_ ?_); rotate_left; exact rfl) | ((with_reducible refine Tot.dB (n := ?_) ?_ ?_); rotate_left; exact rfl) | ((with_reducible refine Tot.dS (n := ?_) ?_ ?_); rotate_left; exact rfl) | ((with_reducible refine Tot.dL (n := ?_) (f := ?_) ?_ ?_); rotate_left 2; exact rfl))
    exact Tot.cond (fun _ => h9 _ _ _ _ _ _ _ _) fun _ => h9 _ _ _ _ _ _ _ _
  repeat' first
    | exact Tot.some ⟨_, rfl⟩
    | refine Tot.cond (fun _ => ?_) (fun _ => ?_)
    | exact j_sg hX
    | (refine Tot.bind (j_sg hX) ?_; rintro _ ⟨_, rfl⟩)
    | exact h3
    | (refine Tot.bind (h3) ?_; rintro _ ⟨_, rfl⟩)
    | (first | ((with_reducible refine Tot.rI (n := ?_) ?_ ?_); rotate_left; exact rfl) | ((with_reducible refine Tot.rB (n := ?_) ?_ ?_); rotate_left; exact rfl) | ((with_reducible refine Tot.rS (n := ?_) ?_ ?_); rotate_left; exact rfl) | ((with_reducible refine Tot.rM (n := ?_) ?_ ?_); rotate_left; exact rfl) | ((with_reducible refine Tot.rO (n := ?_) ?_ ?_); rotate_left; exact rfl) | ((with_reducible refine Tot.dI (n := ?_) ?_ ?_); rotate_left; exact rfl) | ((with_reducible refine Tot.dB (n := ?_) ?_ ?_); rotate_left; exact rfl) | ((with_reducible refine Tot.dS (n := ?_) ?_ ?_); rotate_left; exact rfl) | ((with_reducible refine Tot.dL (n := ?_) (f := ?_) ?_ ?_); rotate_left 2; exact rfl))
theorem j_simple {l : List Rw} (hl : Po l) (hn : l.length ≤ 1000) : TB (VV 130 [.c (.s false l)]) := by
  rw [b130 hX, e130]
  refine Tot.bind (j_line hX hl hn) ?_
  rintro _ ⟨_, rfl⟩
  repeat (first | ((with_reducible refine Tot.rI (n := ?_) ?_ ?_); rotate_left; exact rfl) | ((with_reducible refine Tot.rB (n := ?_) ?_ ?_); rotate_left; exact rfl) | ((with_reducible refine Tot.rS (n := ?_) ?_ ?_); rotate_left; exact rfl) | ((with_reducible refine Tot.rM (n := ?_) ?_ ?_); rotate_left; exact rfl) | ((with_reducible refine Tot.rO (n := ?_) ?_ ?_); rotate_left; exact rfl) | ((with_reducible refine Tot.dI (n := ?_) ?_ ?_); rotate_left; exact rfl) | ((with_reducible refine Tot.dB (n := ?_) ?_ ?_); rotate_left; exact rfl) | ((with_reducible refine Tot.dS (n := ?_) ?_ ?_); rotate_left; exact rfl) | ((with_reducible refine Tot.dL (n := ?_) (f := ?_) ?_ ?_); rotate_left 2; exact rfl))
  refine Tot.cond (fun _ => .some ⟨_, rfl⟩) fun _ => ?_
  refine Tot.bind (j_segs hX hl hn) ?_
  rintro _ ⟨m, rfl, hm, hml⟩
  repeat (first | ((with_reducible refine Tot.rI (n := ?_) ?_ ?_); rotate_left; exact rfl) | ((with_reducible refine Tot.rB (n := ?_) ?_ ?_); rotate_left; exact rfl) | ((with_reducible refine Tot.rS (n := ?_) ?_ ?_); rotate_left; exact rfl) | ((with_reducible refine Tot.rM (n := ?_) ?_ ?_); rotate_left; exact rfl) | ((with_reducible refine Tot.rO (n := ?_) ?_ ?_); rotate_left; exact rfl) | ((with_reducible refine Tot.dI (n := ?_) ?_ ?_); rotate_left; exact rfl) | ((with_reducible refine Tot.dB (n := ?_) ?_ ?_); rotate_left; exact rfl) | ((with_reducible refine Tot.dS (n := ?_) ?_ ?_); rotate_left; exact rfl) | ((with_reducible refine Tot.dL (n := ?_) (f := ?_) ?_ ?_); rotate_left 2; exact rfl))
  suffices h : ∀ (k : Nat) (i : Int), 0 ≤ i → i ≤ m.length → m.length - i ≤ k → TB (VP 130 5 (s130_5 m.length i m)) from h m.length 0 (by omega) (by omega) (by omega)
  intro k
  induction k with
  | zero =>
    intro i h0 h1 hk
    rw [p130 hX, e130_5]
    refine Tot.cond (fun hx => ?_) fun hx => .some ⟨_, rfl⟩
    simp only [decide_eq_true_eq] at hx; omega
  | succ k ih =>
    intro i h0 h1 hk
    have inner : i < m.length → ∀ (k : Nat) (j : Int), 0 ≤ j → j ≤ i → i - j ≤ k → TB (VP 130 8 (s130_8 i m.length i i j m)) := by
      intro hi k2
      induction k2 with
      | zero =>
        intro j j0 j1 jk
        rw [p130 hX, e130_8, w64 (x := i + 1) (by omega) (by omega)]
        refine Tot.cond (fun hx => ?_) fun hx => ih _ (by omega) (by omega) (by omega)
        simp only [decide_eq_true_eq] at hx; omega
      | succ k2 ih2 =>
        intro j j0 j1 jk
        have h13 : ∀ n : Int, j < i → TB (VP 130 13 (s130_13 i j n m.length i i j m)) := by
          intro n hj
          rw [p130 hX, e130_13, w64 (x := j + 1) (by omega) (by omega)]
          refine Tot.chk (by omega) (Tot.get (by omega) fun r _ hr => ?_)
          obtain ⟨x, y, z, u, rfl⟩ := hm r hr
          repeat (first | ((with_reducible refine Tot.rI (n := ?_) ?_ ?_); rotate_left; exact rfl) | ((with_reducible refine Tot.rB (n := ?_) ?_ ?_); rotate_left; exact rfl) | ((with_reducible refine Tot.rS (n := ?_) ?_ ?_); rotate_left; exact rfl) | ((with_reducible refine Tot.rM (n := ?_) ?_ ?_); rotate_left; exact rfl) | ((with_reducible refine Tot.rO (n := ?_) ?_ ?_); rotate_left; exact rfl) | ((with_reducible refine Tot.dI (n := ?_) ?_ ?_); rotate_left; exact rfl) | ((with_reducible refine Tot.dB (n := ?_) ?_ ?_); rotate_left; exact rfl) | ((with_reducible refine Tot.dS (n := ?_) ?_ ?_); rotate_left; exact rfl) | ((with_reducible refine Tot.dL (n := ?_) (f := ?_) ?_ ?_); rotate_left 2; exact rfl))
          refine Tot.chk (by omega) (Tot.get (by omega) fun r _ hr => ?_)
          obtain ⟨x, y, z, u, rfl⟩ := hm r hr
          repeat (first | ((with_reducible refine Tot.rI (n := ?_) ?_ ?_); rotate_left; exact rfl) | ((with_reducible refine Tot.rB (n := ?_) ?_ ?_); rotate_left; exact rfl) | ((with_reducible refine Tot.rS (n := ?_) ?_ ?_); rotate_left; exact rfl) | ((with_reducible refine Tot.rM (n := ?_) ?_ ?_); rotate_left; exact rfl) | ((with_reducible refine Tot.rO (n := ?_) ?_ ?_); rotate_left; exact rfl) | ((with_reducible refine Tot.dI (n := ?_) ?_ ?_); rotate_left; exact rfl) | ((with_reducible refine Tot.dB (n := ?_) ?_ ?_); rotate_left; exact rfl) | ((with_reducible refine Tot.dS (n := ?_) ?_ ?_); rotate_left; exact rfl) | ((with_reducible refine Tot.dL (n := ?_) (f := ?_) ?_ ?_); rotate_left 2; exact rfl))
          refine Tot.bind (j_howmeet hX) ?_
          rintro _ ⟨_, rfl⟩
          repeat (first | ((with_reducible refine Tot.rI (n := ?_) ?_ ?_); rotate_left; exact rfl) | ((with_reducible refine Tot.rB (n := ?_) ?_ ?_); rotate_left; exact rfl) | ((with_reducible refine Tot.rS (n := ?_) ?_ ?_); rotate_left; exact rfl) | ((with_reducible refine Tot.rM (n := ?_) ?_ ?_); rotate_left; exact rfl) | ((with_reducible refine Tot.rO (n := ?_) ?_ ?_); rotate_left; exact rfl) | ((with_reducible refine Tot.dI (n := ?_) ?_ ?_); rotate_left; exact rfl) | ((with_reducible refine Tot.dB (n := ?_) ?_ ?_); rotate_left; exact rfl) | ((with_reducible refine Tot.dS (n := ?_) ?_ ?_); rotate_left; exact rfl) | ((with_reducible refine Tot.dL (n := ?_) (f := ?_) ?_ ?_); rotate_left 2; exact rfl))
          exact Tot.cond (fun _ => .some ⟨_, rfl⟩) fun _ => ih2 _ (by omega) (by omega) (by omega)
        rw [p130 hX, e130_8, w64 (x := i + 1) (by omega) (by omega)]
        refine Tot.cond (fun hx => ?_) fun hx => ih _ (by omega) (by omega) (by omega)
        simp only [decide_eq_true_eq] at hx
        exact Tot.cond (fun _ => h13 _ hx) fun _ => h13 _ hx
    rw [p130 hX, e130_5]
    refine Tot.cond (fun hx => ?_) fun hx => .some ⟨_, rfl⟩
    simp only [decide_eq_true_eq] at hx
    exact inner hx i.toNat 0 (by omega) (by omega) (by omega)
theorem j_around {l : List Rw} (hl : Po l) (hn : l.length ≤ 1000) : Tot (VV 173 [.c (.s false l)]) fun r => ∃ m, r = [.own m] ∧ Se m ∧ m.length ≤ l.length := by
  rw [b173 hX, e173]
  suffices h : ∀ (k : Nat) (i : Int) (m : List Rw), 0 ≤ i → Se m → (m.length : Int) = i → m.length ≤ l.length → l.length - i ≤ k → Tot (VP 173 3 (s173_3 l l l.length i m)) fun r => ∃ m, r = [.own m] ∧ Se m ∧ m.length ≤ l.length from h l.length 0 [] (by omega) Se.nil (by simp) (by simp) (by omega)
  intro k
  induction k with
  | zero =>
    intro i m h0 hm h1 h2 hk
    rw [p173 hX, e173_3]
    refine Tot.cond (fun hx => ?_) fun hx => .some ⟨_, rfl, hm, h2⟩
    simp only [decide_eq_true_eq] at hx; omega
  | succ k ih =>
    intro i m h0 hm h1 h2 hk
    rw [p173 hX, e173_3]
    refine Tot.cond (fun hx => ?_) fun hx => .some ⟨_, rfl, hm, h2⟩
    simp only [decide_eq_true_eq] at hx
    rw [w64 (x := i + 1) (by omega) (by omega)]
    refine Tot.getE h0 hx hl.two fun r _ hr => ?_
    obtain ⟨x, y, rfl⟩ := hl r hr
    repeat (first | ((with_reducible refine Tot.rI (n := ?_) ?_ ?_); rotate_left; exact rfl) | ((with_reducible refine Tot.rB (n := ?_) ?_ ?_); rotate_left; exact rfl) | ((with_reducible refine Tot.rS (n := ?_) ?_ ?_); rotate_left; exact rfl) | ((with_reducible refine Tot.rM (n := ?_) ?_ ?_); rotate_left; exact rfl) | ((with_reducible refine Tot.rO (n := ?_) ?_ ?_); rotate_left; exact rfl) | ((with_reducible refine Tot.dI (n := ?_) ?_ ?_); rotate_left; exact rfl) | ((with_reducible refine Tot.dB (n := ?_) ?_ ?_); rotate_left; exact rfl) | ((with_reducible refine Tot.dS (n := ?_) ?_ ?_); rotate_left; exact rfl) | ((with_reducible refine Tot.dL (n := ?_) (f := ?_) ?_ ?_); rotate_left 2; exact rfl))
    have ht := tmod_lt (x := i + 1) (n := l.length) (by omega) (by omega)
    refine Tot.chk (by omega) (Tot.getE ht.1 ht.2 hl.two fun r _ hr => ?_)
    obtain ⟨x, y, rfl⟩ := hl r hr
    repeat (first | ((with_reducible refine Tot.rI (n := ?_) ?_ ?_); rotate_left; exact rfl) | ((with_reducible refine Tot.rB (n := ?_) ?_ ?_); rotate_left; exact rfl) | ((with_reducible refine Tot.rS (n := ?_) ?_ ?_); rotate_left; exact rfl) | ((with_reducible refine Tot.rM (n := ?_) ?_ ?_); rotate_left; exact rfl) | ((with_reducible refine Tot.rO (n := ?_) ?_ ?_); rotate_left; exact rfl) | ((with_reducible refine Tot.dI (n := ?_) ?_ ?_); rotate_left; exact rfl) | ((with_reducible refine Tot.dB (n := ?_) ?_ ?_); rotate_left; exact rfl) | ((with_reducible refine Tot.dS (n := ?_) ?_ ?_); rotate_left; exact rfl) | ((with_reducible refine Tot.dL (n := ?_) (f := ?_) ?_ ?_); rotate_left 2; exact rfl))
    refine Tot.chk (by simp only [List.length_cons, List.length_nil]; omega) ?_
    refine ih _ _ ?_ (hm.app Se.one) ?_ ?_ ?_ <;> (try simp only [List.length_append, List.length_cons, List.length_nil]) <;> omega
theorem j_ring {l : List Rw} (hl : Po l) (hn : l.length ≤ 1000) : TB (VV 131 [.c (.s false l)]) := by
  rw [b131 hX, e131]
  refine Tot.cond (fun _ => .some ⟨_, rfl⟩) fun _ => Tot.cond (fun _ => .some ⟨_, rfl⟩) fun _ => ?_
  refine Tot.bind (j_around hX hl hn) ?_
  rintro _ ⟨m, rfl, hm, hml⟩
  repeat (first | ((with_reducible refine Tot.rI (n := ?_) ?_ ?_); rotate_left; exact rfl) | ((with_reducible refine Tot.rB (n := ?_) ?_ ?_); rotate_left; exact rfl) | ((with_reducible refine Tot.rS (n := ?_) ?_ ?_); rotate_left; exact rfl) | ((with_reducible refine Tot.rM (n := ?_) ?_ ?_); rotate_left; exact rfl) | ((with_reducible refine Tot.rO (n := ?_) ?_ ?_); rotate_left; exact rfl) | ((with_reducible refine Tot.dI (n := ?_) ?_ ?_); rotate_left; exact rfl) | ((with_reducible refine Tot.dB (n := ?_) ?_ ?_); rotate_left; exact rfl) | ((with_reducible refine Tot.dS (n := ?_) ?_ ?_); rotate_left; exact rfl) | ((with_reducible refine Tot.dL (n := ?_) (f := ?_) ?_ ?_); rotate_left 2; exact rfl))
  suffices h : ∀ (k : Nat) (i : Int), 0 ≤ i → i ≤ m.length → m.length - i ≤ k → TB (VP 131 5 (s131_5 m.length i m)) from h m.length 0 (by omega) (by omega) (by omega)
  intro k
  induction k with
  | zero =>
    intro i h0 h1 hk
    rw [p131 hX, e131_5]
    refine Tot.cond (fun hx => ?_) fun hx => .some ⟨_, rfl⟩
    simp only [decide_eq_true_eq] at hx; omega
  | succ k ih =>
    intro i h0 h1 hk
    have inner : i < m.length → ∀ (k : Nat) (j : Int), 0 ≤ j → j ≤ i → i - j ≤ k → TB (VP 131 10 (s131_10 i m.length i i j m)) := by
      intro hi k2
      induction k2 with
      | zero =>
        intro j j0 j1 jk
        rw [p131 hX, e131_10, w64 (x := i + 1) (by omega) (by omega)]
        refine Tot.cond (fun hx => ?_) fun hx => ih _ (by omega) (by omega) (by omega)
        simp only [decide_eq_true_eq] at hx; omega
      | succ k2 ih2 =>
        intro j j0 j1 jk
        have h15 : ∀ n : Int, j < i → TB (VP 131 15 (s131_15 i j n m.length i i j m)) := by
          intro n hj
          rw [p131 hX, e131_15, w64 (x := j + 1) (by omega) (by omega)]
          refine Tot.chk (by omega) (Tot.get (by omega) fun r _ hr => ?_)
          obtain ⟨x, y, z, u, rfl⟩ := hm r hr
          repeat (first | ((with_reducible refine Tot.rI (n := ?_) ?_ ?_); rotate_left; exact rfl) | ((with_reducible refine Tot.rB (n := ?_) ?_ ?_); rotate_left; exact rfl) | ((with_reducible refine Tot.rS (n := ?_) ?_ ?_); rotate_left; exact rfl) | ((with_reducible refine Tot.rM (n := ?_) ?_ ?_); rotate_left; exact rfl) | ((with_reducible refine Tot.rO (n := ?_) ?_ ?_); rotate_left; exact rfl) | ((with_reducible refine Tot.dI (n := ?_) ?_ ?_); rotate_left; exact rfl) | ((with_reducible refine Tot.dB (n := ?_) ?_ ?_); rotate_left; exact rfl) | ((with_reducible refine Tot.dS (n := ?_) ?_ ?_); rotate_left; exact rfl) | ((with_reducible refine Tot.dL (n := ?_) (f := ?_) ?_ ?_); rotate_left 2; exact rfl))
          refine Tot.chk (by omega) (Tot.get (by omega) fun r _ hr => ?_)
          obtain ⟨x, y, z, u, rfl⟩ := hm r hr
          repeat (first | ((with_reducible refine Tot.rI (n := ?_) ?_ ?_); rotate_left; exact rfl) | ((with_reducible refine Tot.rB (n := ?_) ?_ ?_); rotate_left; exact rfl) | ((with_reducible refine Tot.rS (n := ?_) ?_ ?_); rotate_left; exact rfl) | ((with_reducible refine Tot.rM (n := ?_) ?_ ?_); rotate_left; exact rfl) | ((with_reducible refine Tot.rO (n := ?_) ?_ ?_); rotate_left; exact rfl) | ((with_reducible refine Tot.dI (n := ?_) ?_ ?_); rotate_left; exact rfl) | ((with_reducible refine Tot.dB (n := ?_) ?_ ?_); rotate_left; exact rfl) | ((with_reducible refine Tot.dS (n := ?_) ?_ ?_); rotate_left; exact rfl) | ((with_reducible refine Tot.dL (n := ?_) (f := ?_) ?_ ?_); rotate_left 2; exact rfl))
          refine Tot.bind (j_howmeet hX) ?_
          rintro _ ⟨_, rfl⟩
          repeat (first | ((with_reducible refine Tot.rI (n := ?_) ?_ ?_); rotate_left; exact rfl) | ((with_reducible refine Tot.rB (n := ?_) ?_ ?_); rotate_left; exact rfl) | ((with_reducible refine Tot.rS (n := ?_) ?_ ?_); rotate_left; exact rfl) | ((with_reducible refine Tot.rM (n := ?_) ?_ ?_); rotate_left; exact rfl) | ((with_reducible refine Tot.rO (n := ?_) ?_ ?_); rotate_left; exact rfl) | ((with_reducible refine Tot.dI (n := ?_) ?_ ?_); rotate_left; exact rfl) | ((with_reducible refine Tot.dB (n := ?_) ?_ ?_); rotate_left; exact rfl) | ((with_reducible refine Tot.dS (n := ?_) ?_ ?_); rotate_left; exact rfl) | ((with_reducible refine Tot.dL (n := ?_) (f := ?_) ?_ ?_); rotate_left 2; exact rfl))
          exact Tot.cond (fun _ => .some ⟨_, rfl⟩) fun _ => ih2 _ (by omega) (by omega) (by omega)
        rw [p131 hX, e131_10, w64 (x := i + 1) (by omega) (by omega)]
        refine Tot.cond (fun hx => ?_) fun hx => ih _ (by omega) (by omega) (by omega)
        simp only [decide_eq_true_eq] at hx
        exact Tot.cond (fun _ => h15 _ hx) fun _ => Tot.cond (fun _ => Tot.cond (fun _ => h15 _ hx) fun _ => h15 _ hx) fun _ => h15 _ hx
    rw [p131 hX, e131_5]
    refine Tot.cond (fun hx => ?_) fun hx => .some ⟨_, rfl⟩
    simp only [decide_eq_true_eq] at hx
    refine Tot.chk (by omega) (Tot.get (by omega) fun r _ hr => ?_)
    obtain ⟨x, y, z, u, rfl⟩ := hm r hr
    repeat (first | ((with_reducible refine Tot.rI (n := ?_) ?_ ?_); rotate_left; exact rfl) | ((with_reducible refine Tot.rB (n := ?_) ?_ ?_); rotate_left; exact rfl) | ((with_reducible refine Tot.rS (n := ?_) ?_ ?_); rotate_left; exact rfl) | ((with_reducible refine Tot.rM (n := ?_) ?_ ?_); rotate_left; exact rfl) | ((with_reducible refine Tot.rO (n := ?_) ?_ ?_); rotate_left; exact rfl) | ((with_reducible refine Tot.dI (n := ?_) ?_ ?_); rotate_left; exact rfl) | ((with_reducible refine Tot.dB (n := ?_) ?_ ?_); rotate_left; exact rfl) | ((with_reducible refine Tot.dS (n := ?_) ?_ ?_); rotate_left; exact rfl) | ((with_reducible refine Tot.dL (n := ?_) (f := ?_) ?_ ?_); rotate_left 2; exact rfl))
    refine Tot.bind (j_sg hX) ?_
    rintro _ ⟨_, rfl⟩
    repeat (first | ((with_reducible refine Tot.rI (n := ?_) ?_ ?_); rotate_left; exact rfl) | ((with_reducible refine Tot.rB (n := ?_) ?_ ?_); rotate_left; exact rfl) | ((with_reducible refine Tot.rS (n := ?_) ?_ ?_); rotate_left; exact rfl) | ((with_reducible refine Tot.rM (n := ?_) ?_ ?_); rotate_left; exact rfl) | ((with_reducible refine Tot.rO (n := ?_) ?_ ?_); rotate_left; exact rfl) | ((with_reducible refine Tot.dI (n := ?_) ?_ ?_); rotate_left; exact rfl) | ((with_reducible refine Tot.dB (n := ?_) ?_ ?_); rotate_left; exact rfl) | ((with_reducible refine Tot.dS (n := ?_) ?_ ?_); rotate_left; exact rfl) | ((with_reducible refine Tot.dL (n := ?_) (f := ?_) ?_ ?_); rotate_left 2; exact rfl))
    exact Tot.cond (fun _ => .some ⟨_, rfl⟩) fun _ => inner hx i.toNat 0 (by omega) (by omega) (by omega)
theorem j_feature {i k q : Int} {nm : ByteArray} {p : List Rw} (hp : Po p) (hl : p.length ≤ 1000) (hn : nm.size ≤ 1000) : Tot (VV 91 [.agg [iD i, iD k, iD q, sD nm, .s false p]]) fun r => ∃ b, r = [bR b] ∧ (b = true → k = 1 → p.length = 1) := by
  rw [b91 hX, e91]
  have h3 : Tot (VP 91 3 (s91_3 i k q nm p)) fun r => ∃ b, r = [bR b] ∧ (b = true → k = 1 → p.length = 1) := by
    rw [p91 hX, e91_3]
    refine Tot.cond (fun _ => Tot.cond (fun h1 => ?_) fun _ => .some ⟨_, rfl, by simp⟩) fun hk => ?_
    · have h1 := eq_of_beq h1
      refine Tot.getE (by omega) (by omega) hp.two fun r _ hr => ?_
      obtain ⟨x, y, rfl⟩ := hp r hr
      repeat (first | ((with_reducible refine Tot.rI (n := ?_) ?_ ?_); rotate_left; exact rfl) | ((with_reducible refine Tot.rB (n := ?_) ?_ ?_); rotate_left; exact rfl) | ((with_reducible refine Tot.rS (n := ?_) ?_ ?_); rotate_left; exact rfl) | ((with_reducible refine Tot.rM (n := ?_) ?_ ?_); rotate_left; exact rfl) | ((with_reducible refine Tot.rO (n := ?_) ?_ ?_); rotate_left; exact rfl) | ((with_reducible refine Tot.dI (n := ?_) ?_ ?_); rotate_left; exact rfl) | ((with_reducible refine Tot.dB (n := ?_) ?_ ?_); rotate_left; exact rfl) | ((with_reducible refine Tot.dS (n := ?_) ?_ ?_); rotate_left; exact rfl) | ((with_reducible refine Tot.dL (n := ?_) (f := ?_) ?_ ?_); rotate_left 2; exact rfl))
      refine Tot.bind (j_pt hX) ?_
      rintro _ ⟨_, rfl⟩
      repeat (first | ((with_reducible refine Tot.rI (n := ?_) ?_ ?_); rotate_left; exact rfl) | ((with_reducible refine Tot.rB (n := ?_) ?_ ?_); rotate_left; exact rfl) | ((with_reducible refine Tot.rS (n := ?_) ?_ ?_); rotate_left; exact rfl) | ((with_reducible refine Tot.rM (n := ?_) ?_ ?_); rotate_left; exact rfl) | ((with_reducible refine Tot.rO (n := ?_) ?_ ?_); rotate_left; exact rfl) | ((with_reducible refine Tot.dI (n := ?_) ?_ ?_); rotate_left; exact rfl) | ((with_reducible refine Tot.dB (n := ?_) ?_ ?_); rotate_left; exact rfl) | ((with_reducible refine Tot.dS (n := ?_) ?_ ?_); rotate_left; exact rfl) | ((with_reducible refine Tot.dL (n := ?_) (f := ?_) ?_ ?_); rotate_left 2; exact rfl))
      exact .some ⟨_, rfl, fun _ _ => by omega⟩
    · have hk : k ≠ 1 := fun h => by subst h; exact absurd hk (by decide)
      refine Tot.mono (P := fun r => ∃ b, r = [bR b]) ?_ fun _ ⟨b, h⟩ => ⟨b, h, fun _ h => absurd h hk⟩
      repeat' first
        | exact Tot.some ⟨_, rfl⟩
        | refine Tot.cond (fun _ => ?_) (fun _ => ?_)
        | exact j_simple hX hp hl
        | (refine Tot.bind (j_simple hX hp hl) ?_; rintro _ ⟨_, rfl⟩)
        | exact j_ring hX hp hl
        | (refine Tot.bind (j_ring hX hp hl) ?_; rintro _ ⟨_, rfl⟩)
        | (first | ((with_reducible refine Tot.rI (n := ?_) ?_ ?_); rotate_left; exact rfl) | ((with_reducible refine Tot.rB (n := ?_) ?_ ?_); rotate_left; exact rfl) | ((with_reducible refine Tot.rS (n := ?_) ?_ ?_); rotate_left; exact rfl) | ((with_reducible refine Tot.rM (n := ?_) ?_ ?_); rotate_left; exact rfl) | ((with_reducible refine Tot.rO (n := ?_) ?_ ?_); rotate_left; exact rfl) | ((with_reducible refine Tot.dI (n := ?_) ?_ ?_); rotate_left; exact rfl) | ((with_reducible refine Tot.dB (n := ?_) ?_ ?_); rotate_left; exact rfl) | ((with_reducible refine Tot.dS (n := ?_) ?_ ?_); rotate_left; exact rfl) | ((with_reducible refine Tot.dL (n := ?_) (f := ?_) ?_ ?_); rotate_left 2; exact rfl))
  refine Tot.bind (j_in hX) ?_
  rintro _ ⟨_, rfl⟩
  repeat (first | ((with_reducible refine Tot.rI (n := ?_) ?_ ?_); rotate_left; exact rfl) | ((with_reducible refine Tot.rB (n := ?_) ?_ ?_); rotate_left; exact rfl) | ((with_reducible refine Tot.rS (n := ?_) ?_ ?_); rotate_left; exact rfl) | ((with_reducible refine Tot.rM (n := ?_) ?_ ?_); rotate_left; exact rfl) | ((with_reducible refine Tot.rO (n := ?_) ?_ ?_); rotate_left; exact rfl) | ((with_reducible refine Tot.dI (n := ?_) ?_ ?_); rotate_left; exact rfl) | ((with_reducible refine Tot.dB (n := ?_) ?_ ?_); rotate_left; exact rfl) | ((with_reducible refine Tot.dS (n := ?_) ?_ ?_); rotate_left; exact rfl) | ((with_reducible refine Tot.dL (n := ?_) (f := ?_) ?_ ?_); rotate_left 2; exact rfl))
  refine Tot.cond (fun _ => .some ⟨_, rfl, by simp⟩) fun _ => ?_
  refine Tot.bind (j_in hX) ?_
  rintro _ ⟨_, rfl⟩
  repeat (first | ((with_reducible refine Tot.rI (n := ?_) ?_ ?_); rotate_left; exact rfl) | ((with_reducible refine Tot.rB (n := ?_) ?_ ?_); rotate_left; exact rfl) | ((with_reducible refine Tot.rS (n := ?_) ?_ ?_); rotate_left; exact rfl) | ((with_reducible refine Tot.rM (n := ?_) ?_ ?_); rotate_left; exact rfl) | ((with_reducible refine Tot.rO (n := ?_) ?_ ?_); rotate_left; exact rfl) | ((with_reducible refine Tot.dI (n := ?_) ?_ ?_); rotate_left; exact rfl) | ((with_reducible refine Tot.dB (n := ?_) ?_ ?_); rotate_left; exact rfl) | ((with_reducible refine Tot.dS (n := ?_) ?_ ?_); rotate_left; exact rfl) | ((with_reducible refine Tot.dL (n := ?_) (f := ?_) ?_ ?_); rotate_left 2; exact rfl))
  refine Tot.cond (fun _ => .some ⟨_, rfl, by simp⟩) fun _ => Tot.cond (fun _ => ?_) fun _ => h3
  refine Tot.bind (j_name hX (by omega)) ?_
  rintro _ ⟨_, rfl⟩
  repeat (first | ((with_reducible refine Tot.rI (n := ?_) ?_ ?_); rotate_left; exact rfl) | ((with_reducible refine Tot.rB (n := ?_) ?_ ?_); rotate_left; exact rfl) | ((with_reducible refine Tot.rS (n := ?_) ?_ ?_); rotate_left; exact rfl) | ((with_reducible refine Tot.rM (n := ?_) ?_ ?_); rotate_left; exact rfl) | ((with_reducible refine Tot.rO (n := ?_) ?_ ?_); rotate_left; exact rfl) | ((with_reducible refine Tot.dI (n := ?_) ?_ ?_); rotate_left; exact rfl) | ((with_reducible refine Tot.dB (n := ?_) ?_ ?_); rotate_left; exact rfl) | ((with_reducible refine Tot.dS (n := ?_) ?_ ?_); rotate_left; exact rfl) | ((with_reducible refine Tot.dL (n := ?_) (f := ?_) ?_ ?_); rotate_left 2; exact rfl))
  exact Tot.cond (fun _ => .some ⟨_, rfl, by simp⟩) fun _ => h3
/-- What a valid source's features have. -/
def FtOK (r : Rw) : Prop := ∃ i k q nm f p, r = [iD i, iD k, iD q, sD nm, .s f p] ∧ Po p ∧ p.length ≤ 100 ∧ nm.size ≤ 100 ∧ (k = 1 → p.length = 1)
theorem j_source {l : List Rw} (hl : Fts l) (hn : l.length ≤ 1000) : Tot (VV 41 [.c (.s false l)]) fun r => ∃ b, r = [bR b] ∧ (b = true → ∀ r ∈ l, FtOK r) := by
  rw [b41 hX, e41]
  refine Tot.cond (fun _ => .some ⟨_, rfl, by simp⟩) fun _ => ?_
  suffices h : ∀ (k : Nat) (i : Int), 0 ≤ i → i ≤ l.length → l.length - i ≤ k → (∀ r ∈ l.take i.toNat, FtOK r) → Tot (VP 41 4 (s41_4 l l l.length i)) fun r => ∃ b, r = [bR b] ∧ (b = true → ∀ r ∈ l, FtOK r) from h l.length 0 (by omega) (by omega) (by omega) (by simp)
  intro k
  induction k with
  | zero =>
    intro i h0 h1 hk ha
    rw [p41 hX, e41_4]
    refine Tot.cond (fun hx => ?_) fun hx => .some ⟨_, rfl, fun _ => ?_⟩
    · simp only [decide_eq_true_eq] at hx; omega
    · rwa [List.take_of_length_le (by omega)] at ha
  | succ k ih =>
    intro i h0 h1 hk ha
    rw [p41 hX, e41_4]
    refine Tot.cond (fun hx => ?_) fun hx => .some ⟨_, rfl, fun _ => ?_⟩
    · simp only [decide_eq_true_eq] at hx
      refine Tot.getE h0 hx hl.five fun r he hr => ?_
      obtain ⟨_, _, _, _, _, _, rfl, hp, hpl, hnm⟩ := hl r hr
      repeat (first | ((with_reducible refine Tot.rI (n := ?_) ?_ ?_); rotate_left; exact rfl) | ((with_reducible refine Tot.rB (n := ?_) ?_ ?_); rotate_left; exact rfl) | ((with_reducible refine Tot.rS (n := ?_) ?_ ?_); rotate_left; exact rfl) | ((with_reducible refine Tot.rM (n := ?_) ?_ ?_); rotate_left; exact rfl) | ((with_reducible refine Tot.rO (n := ?_) ?_ ?_); rotate_left; exact rfl) | ((with_reducible refine Tot.dI (n := ?_) ?_ ?_); rotate_left; exact rfl) | ((with_reducible refine Tot.dB (n := ?_) ?_ ?_); rotate_left; exact rfl) | ((with_reducible refine Tot.dS (n := ?_) ?_ ?_); rotate_left; exact rfl) | ((with_reducible refine Tot.dL (n := ?_) (f := ?_) ?_ ?_); rotate_left 2; exact rfl))
      refine Tot.bind (j_feature hX hp (by omega) (by omega)) ?_
      rintro _ ⟨b, rfl, hb⟩
      repeat (first | ((with_reducible refine Tot.rI (n := ?_) ?_ ?_); rotate_left; exact rfl) | ((with_reducible refine Tot.rB (n := ?_) ?_ ?_); rotate_left; exact rfl) | ((with_reducible refine Tot.rS (n := ?_) ?_ ?_); rotate_left; exact rfl) | ((with_reducible refine Tot.rM (n := ?_) ?_ ?_); rotate_left; exact rfl) | ((with_reducible refine Tot.rO (n := ?_) ?_ ?_); rotate_left; exact rfl) | ((with_reducible refine Tot.dI (n := ?_) ?_ ?_); rotate_left; exact rfl) | ((with_reducible refine Tot.dB (n := ?_) ?_ ?_); rotate_left; exact rfl) | ((with_reducible refine Tot.dS (n := ?_) ?_ ?_); rotate_left; exact rfl) | ((with_reducible refine Tot.dL (n := ?_) (f := ?_) ?_ ?_); rotate_left 2; exact rfl))
      rw [w64 (x := i + 1) (by omega) (by omega)]
      refine Tot.cond (fun _ => .some ⟨_, rfl, by simp⟩) fun hbf => ?_
      have hb := hb (by cases b <;> simp_all)
      have hi := ih (i + 1) (by omega) (by omega) (by omega) (by
        rw [show (i + 1).toNat = i.toNat + 1 by omega, List.take_add_one, he]
        intro r' hr'
        rcases List.mem_append.mp hr' with hr' | hr'
        · exact ha r' hr'
        · simp only [Option.toList_some, List.mem_singleton] at hr'
          exact ⟨_, _, _, _, _, _, hr', hp, hpl, hnm, hb⟩)
      refine Tot.cond (fun hx2 => ?_) fun _ => hi
      simp only [decide_eq_true_eq] at hx2
      rw [w64 (x := i - 1) (by omega) (by omega)]
      refine Tot.getE (by omega) (by omega) hl.five fun r _ hr => ?_
      obtain ⟨_, _, _, _, _, _, rfl, _, _, _⟩ := hl r hr
      repeat (first | ((with_reducible refine Tot.rI (n := ?_) ?_ ?_); rotate_left; exact rfl) | ((with_reducible refine Tot.rB (n := ?_) ?_ ?_); rotate_left; exact rfl) | ((with_reducible refine Tot.rS (n := ?_) ?_ ?_); rotate_left; exact rfl) | ((with_reducible refine Tot.rM (n := ?_) ?_ ?_); rotate_left; exact rfl) | ((with_reducible refine Tot.rO (n := ?_) ?_ ?_); rotate_left; exact rfl) | ((with_reducible refine Tot.dI (n := ?_) ?_ ?_); rotate_left; exact rfl) | ((with_reducible refine Tot.dB (n := ?_) ?_ ?_); rotate_left; exact rfl) | ((with_reducible refine Tot.dS (n := ?_) ?_ ?_); rotate_left; exact rfl) | ((with_reducible refine Tot.dL (n := ?_) (f := ?_) ?_ ?_); rotate_left 2; exact rfl))
      exact Tot.cond (fun _ => .some ⟨_, rfl, by simp⟩) fun _ => hi
    · simp only [decide_eq_false_iff_not] at hx
      rwa [List.take_of_length_le (by omega)] at ha
theorem j_ringsegs {l : List Rw} (hl : Po l) (hn : l.length ≤ 1000) : Tot (VV 137 [.c (.s false l)]) fun r => ∃ m, r = [.own m] ∧ Se m ∧ m.length ≤ l.length := by
  rw [b137 hX, e137]
  refine Tot.bind (j_ring hX hl hn) ?_
  rintro _ ⟨_, rfl⟩
  repeat (first | ((with_reducible refine Tot.rI (n := ?_) ?_ ?_); rotate_left; exact rfl) | ((with_reducible refine Tot.rB (n := ?_) ?_ ?_); rotate_left; exact rfl) | ((with_reducible refine Tot.rS (n := ?_) ?_ ?_); rotate_left; exact rfl) | ((with_reducible refine Tot.rM (n := ?_) ?_ ?_); rotate_left; exact rfl) | ((with_reducible refine Tot.rO (n := ?_) ?_ ?_); rotate_left; exact rfl) | ((with_reducible refine Tot.dI (n := ?_) ?_ ?_); rotate_left; exact rfl) | ((with_reducible refine Tot.dB (n := ?_) ?_ ?_); rotate_left; exact rfl) | ((with_reducible refine Tot.dS (n := ?_) ?_ ?_); rotate_left; exact rfl) | ((with_reducible refine Tot.dL (n := ?_) (f := ?_) ?_ ?_); rotate_left 2; exact rfl))
  refine Tot.cond (fun _ => .some ⟨_, rfl, Se.nil, by simp⟩) fun _ => ?_
  refine Tot.bind (j_around hX hl hn) ?_
  rintro _ ⟨m, rfl, hm, hml⟩
  repeat (first | ((with_reducible refine Tot.rI (n := ?_) ?_ ?_); rotate_left; exact rfl) | ((with_reducible refine Tot.rB (n := ?_) ?_ ?_); rotate_left; exact rfl) | ((with_reducible refine Tot.rS (n := ?_) ?_ ?_); rotate_left; exact rfl) | ((with_reducible refine Tot.rM (n := ?_) ?_ ?_); rotate_left; exact rfl) | ((with_reducible refine Tot.rO (n := ?_) ?_ ?_); rotate_left; exact rfl) | ((with_reducible refine Tot.dI (n := ?_) ?_ ?_); rotate_left; exact rfl) | ((with_reducible refine Tot.dB (n := ?_) ?_ ?_); rotate_left; exact rfl) | ((with_reducible refine Tot.dS (n := ?_) ?_ ?_); rotate_left; exact rfl) | ((with_reducible refine Tot.dL (n := ?_) (f := ?_) ?_ ?_); rotate_left 2; exact rfl))
  exact .some ⟨_, rfl, hm, hml⟩
theorem j_parts {i k q : Int} {nm : ByteArray} {p : List Rw} (hp : Po p) (hl : p.length ≤ 1000) (hn : nm.size ≤ 1000) : Tot (VV 100 [.agg [iD i, iD k, iD q, sD nm, .s false p]]) fun r => ∃ m, r = [.own m] ∧ Se m ∧ m.length ≤ p.length := by
  rw [b100 hX, e100]
  refine Tot.bind (j_feature hX hp hl hn) ?_
  rintro _ ⟨b, rfl, -⟩
  repeat (first | ((with_reducible refine Tot.rI (n := ?_) ?_ ?_); rotate_left; exact rfl) | ((with_reducible refine Tot.rB (n := ?_) ?_ ?_); rotate_left; exact rfl) | ((with_reducible refine Tot.rS (n := ?_) ?_ ?_); rotate_left; exact rfl) | ((with_reducible refine Tot.rM (n := ?_) ?_ ?_); rotate_left; exact rfl) | ((with_reducible refine Tot.rO (n := ?_) ?_ ?_); rotate_left; exact rfl) | ((with_reducible refine Tot.dI (n := ?_) ?_ ?_); rotate_left; exact rfl) | ((with_reducible refine Tot.dB (n := ?_) ?_ ?_); rotate_left; exact rfl) | ((with_reducible refine Tot.dS (n := ?_) ?_ ?_); rotate_left; exact rfl) | ((with_reducible refine Tot.dL (n := ?_) (f := ?_) ?_ ?_); rotate_left 2; exact rfl))
  refine Tot.cond (fun _ => Tot.cond (fun _ => ?_) fun _ => Tot.cond (fun _ => ?_) fun _ => .some ⟨_, rfl, Se.nil, by simp⟩) fun _ => .some ⟨_, rfl, Se.nil, by simp⟩
  · refine Tot.bind (j_segs hX hp hl) ?_
    rintro _ ⟨m, rfl, hm, hml⟩
    repeat (first | ((with_reducible refine Tot.rI (n := ?_) ?_ ?_); rotate_left; exact rfl) | ((with_reducible refine Tot.rB (n := ?_) ?_ ?_); rotate_left; exact rfl) | ((with_reducible refine Tot.rS (n := ?_) ?_ ?_); rotate_left; exact rfl) | ((with_reducible refine Tot.rM (n := ?_) ?_ ?_); rotate_left; exact rfl) | ((with_reducible refine Tot.rO (n := ?_) ?_ ?_); rotate_left; exact rfl) | ((with_reducible refine Tot.dI (n := ?_) ?_ ?_); rotate_left; exact rfl) | ((with_reducible refine Tot.dB (n := ?_) ?_ ?_); rotate_left; exact rfl) | ((with_reducible refine Tot.dS (n := ?_) ?_ ?_); rotate_left; exact rfl) | ((with_reducible refine Tot.dL (n := ?_) (f := ?_) ?_ ?_); rotate_left 2; exact rfl))
    exact .some ⟨_, rfl, hm, hml⟩
  · refine Tot.bind (j_ringsegs hX hp hl) ?_
    rintro _ ⟨m, rfl, hm, hml⟩
    repeat (first | ((with_reducible refine Tot.rI (n := ?_) ?_ ?_); rotate_left; exact rfl) | ((with_reducible refine Tot.rB (n := ?_) ?_ ?_); rotate_left; exact rfl) | ((with_reducible refine Tot.rS (n := ?_) ?_ ?_); rotate_left; exact rfl) | ((with_reducible refine Tot.rM (n := ?_) ?_ ?_); rotate_left; exact rfl) | ((with_reducible refine Tot.rO (n := ?_) ?_ ?_); rotate_left; exact rfl) | ((with_reducible refine Tot.dI (n := ?_) ?_ ?_); rotate_left; exact rfl) | ((with_reducible refine Tot.dB (n := ?_) ?_ ?_); rotate_left; exact rfl) | ((with_reducible refine Tot.dS (n := ?_) ?_ ?_); rotate_left; exact rfl) | ((with_reducible refine Tot.dL (n := ?_) (f := ?_) ?_ ?_); rotate_left 2; exact rfl))
    exact .some ⟨_, rfl, hm, hml⟩
end
end Go.Proofs.YtoiefmhmohhaeaaGreat.VE
/- The program: pieces, what is seen, tiles. -/
set_option linter.unusedVariables false
set_option linter.unusedSimpArgs false
namespace Go.Proofs.YtoiefmhmohhaeaaGreat.VE

/-- Pieces of the feature i. -/
def Pc (i : Int) (l : List Rw) : Prop := ∀ r ∈ l, ∃ x, r = [iD i, iD x]
theorem Pc.app {i : Int} {l m : List Rw} (h : Pc i l) (hm : Pc i m) : Pc i (l ++ m) := fun r hr => by
  rcases List.mem_append.mp hr with hr | hr
  · exact h r hr
  · exact hm r hr
theorem Pc.one {i x : Int} : Pc i [[iD i, iD x]] := fun r hr => by
  rw [List.mem_singleton] at hr
  exact ⟨_, hr⟩
theorem Pc.nil {i : Int} : Pc i [] := fun _ h => by cases h
def Has (k : Int) (p segs : List Rw) (x0 y0 x1 y1 : Int) : Prop := (k = 1 ∧ ∃ x y, [iD x, iD y] ∈ p ∧ isBx x0 y0 x1 y1 = true ∧ x0 ≤ x ∧ x ≤ x1 ∧ y0 ≤ y ∧ y ≤ y1) ∨
  ∃ a b c d, [iD a, iD b, iD c, iD d] ∈ segs ∧ Meets a b c d x0 y0 x1 y1
/-- The feature x of the source has a piece in the box. -/
def Seen (l : List Rw) (x x0 y0 x1 y1 : Int) : Prop := ∃ k q nm f p segs, [iD x, iD k, iD q, sD nm, .s f p] ∈ l ∧ VV 100 [.agg [iD x, iD k, iD q, sD nm, .s false p]] = some [.own segs] ∧ Has k p segs x0 y0 x1 y1
theorem Seen.tile {l : List Rw} {x wx wy s v : Int} (hw : isWin wx wy s v = true) (h : Seen l x wx wy (wx + s) (wy + s)) :
    ∃ i j, 0 ≤ i ∧ i ≤ 19 ∧ 0 ≤ j ∧ j ≤ 19 ∧ TileOf i j wx wy s ∧ Seen l x (10 * i) (10 * j) (minI (10 * i + 10) 200) (minI (10 * j + 10) 200) := by
  obtain ⟨k, q, nm, f, p, segs, hm, he, h⟩ := h
  rcases h with ⟨hk, x', y', hp, _, h⟩ | ⟨a, b, c, d, hs, h⟩
  · obtain ⟨i, j, i0, i1, j0, j1, ht, h'⟩ := pt_tile hw h
    exact ⟨i, j, i0, i1, j0, j1, ht, k, q, nm, f, p, segs, hm, he, .inl ⟨hk, x', y', hp, ht.1, h'⟩⟩
  · obtain ⟨i, j, i0, i1, j0, j1, ht, h'⟩ := seg_tile hw h
    exact ⟨i, j, i0, i1, j0, j1, ht, k, q, nm, f, p, segs, hm, he, .inr ⟨a, b, c, d, hs, h'⟩⟩
section
variable (hX : ExtFin tE)
include hX

theorem i_pieces_loop {i k q : Int} {nm : ByteArray} {p segs : List Rw} {x0 y0 x1 y1 : Int} (hs : Se segs) (hl : segs.length ≤ 1000) : ∀ (n : Nat) (j : Int) (acc : List Rw), 0 ≤ j → j ≤ segs.length → segs.length - j ≤ n → Pc i acc → (acc.length : Int) ≤ j + 1 →
    Tot (VP 54 5 (s54_5 false segs.length j i k q nm p x0 y0 x1 y1 acc segs)) fun r => ∃ m, r = [.own m] ∧ Pc i m ∧ m.length ≤ segs.length + 1 ∧ (0 < m.length ↔ 0 < acc.length ∨ ∃ a b c d, [iD a, iD b, iD c, iD d] ∈ segs.drop j.toNat ∧ Meets a b c d x0 y0 x1 y1) := by
  intro n
  induction n with
  | zero =>
    intro j acc h0 h1 hn hp ha
    rw [p54 hX, e54_5]
    refine Tot.cond (fun hx => ?_) fun hx => .some ⟨_, rfl, hp, by omega, ?_⟩
    · simp only [decide_eq_true_eq] at hx; omega
    · rw [List.drop_of_length_le (by omega)]; simp
  | succ n ih =>
    intro j acc h0 h1 hn hp ha
    rw [p54 hX, e54_5]
    refine Tot.cond (fun hx => ?_) fun hx => .some ⟨_, rfl, hp, by omega, ?_⟩
    · simp only [decide_eq_true_eq] at hx
      refine Tot.chk (by omega) (Tot.get (by omega) fun r he hr => ?_)
      obtain ⟨a, b, c, d, rfl⟩ := hs r hr
      repeat (first | ((with_reducible refine Tot.rI (n := ?_) ?_ ?_); rotate_left; exact rfl) | ((with_reducible refine Tot.rB (n := ?_) ?_ ?_); rotate_left; exact rfl) | ((with_reducible refine Tot.rS (n := ?_) ?_ ?_); rotate_left; exact rfl) | ((with_reducible refine Tot.rM (n := ?_) ?_ ?_); rotate_left; exact rfl) | ((with_reducible refine Tot.rO (n := ?_) ?_ ?_); rotate_left; exact rfl) | ((with_reducible refine Tot.dI (n := ?_) ?_ ?_); rotate_left; exact rfl) | ((with_reducible refine Tot.dB (n := ?_) ?_ ?_); rotate_left; exact rfl) | ((with_reducible refine Tot.dS (n := ?_) ?_ ?_); rotate_left; exact rfl) | ((with_reducible refine Tot.dL (n := ?_) (f := ?_) ?_ ?_); rotate_left 2; exact rfl))
      have hd : segs.drop j.toNat = [iD a, iD b, iD c, iD d] :: segs.drop (j + 1).toNat := by
        rw [show (j + 1).toNat = j.toNat + 1 by omega]
        have hlt : j.toNat < segs.length := by omega
        rw [List.drop_eq_getElem_cons hlt]
        rw [List.getElem?_eq_getElem hlt] at he
        rw [Option.some.inj he]
      rw [w64 (x := j + 1) (by omega) (by omega)]
      refine Tot.cond (fun h => by cases h) fun _ => ?_
      refine Tot.bind (i_meets hX) ?_
      rintro _ ⟨u, rfl, hu⟩
      repeat (first | ((with_reducible refine Tot.rI (n := ?_) ?_ ?_); rotate_left; exact rfl) | ((with_reducible refine Tot.rB (n := ?_) ?_ ?_); rotate_left; exact rfl) | ((with_reducible refine Tot.rS (n := ?_) ?_ ?_); rotate_left; exact rfl) | ((with_reducible refine Tot.rM (n := ?_) ?_ ?_); rotate_left; exact rfl) | ((with_reducible refine Tot.rO (n := ?_) ?_ ?_); rotate_left; exact rfl) | ((with_reducible refine Tot.dI (n := ?_) ?_ ?_); rotate_left; exact rfl) | ((with_reducible refine Tot.dB (n := ?_) ?_ ?_); rotate_left; exact rfl) | ((with_reducible refine Tot.dS (n := ?_) ?_ ?_); rotate_left; exact rfl) | ((with_reducible refine Tot.dL (n := ?_) (f := ?_) ?_ ?_); rotate_left 2; exact rfl))
      refine Tot.cond (fun h => ?_) fun h => ?_
      · subst h
        refine Tot.chk (by simp only [List.length_cons, List.length_nil]; omega) ?_
        refine (ih _ _ (by omega) (by omega) (by omega) (hp.app Pc.one) (by simp only [List.length_append, List.length_cons, List.length_nil]; omega)).mono ?_
        rintro _ ⟨m, rfl, hm, hml, hiff⟩
        refine ⟨m, rfl, hm, hml, hiff.trans ⟨fun _ => .inr ⟨a, b, c, d, by rw [hd]; exact List.mem_cons_self .., hu.mp rfl⟩, fun _ => .inl ?_⟩⟩
        simp only [List.length_append, List.length_cons, List.length_nil]; omega
      · subst h
        refine (ih _ _ (by omega) (by omega) (by omega) hp (by omega)).mono ?_
        rintro _ ⟨m, rfl, hm, hml, hiff⟩
        refine ⟨m, rfl, hm, hml, hiff.trans (or_congr_right ?_)⟩
        rw [hd]
        constructor
        · rintro ⟨a', b', c', d', h, h'⟩
          exact ⟨a', b', c', d', List.mem_cons_of_mem _ h, h'⟩
        · rintro ⟨a', b', c', d', h, h'⟩
          rcases List.mem_cons.mp h with h | h
          · simp only [List.cons.injEq, D.v.injEq, Value.int.injEq, true_and, and_true] at h
            obtain ⟨rfl, rfl, rfl, rfl⟩ := h
            exact absurd (hu.mpr h') (by decide)
          · exact ⟨a', b', c', d', h, h'⟩
    · simp only [decide_eq_false_iff_not] at hx
      rw [List.drop_of_length_le (by omega)]; simp
theorem i_pieces {i k q : Int} {nm : ByteArray} {p segs : List Rw} {x0 y0 x1 y1 : Int} (hp : Po p) (hpl : k = 1 → p.length = 1) (he : VV 100 [.agg [iD i, iD k, iD q, sD nm, .s false p]] = some [.own segs]) (hs : Se segs) (hl : segs.length ≤ 1000) :
    Tot (VV 54 [.agg [iD i, iD k, iD q, sD nm, .s false p], .agg [iD x0, iD y0, iD x1, iD y1], .c (bD false)]) fun r => ∃ m, r = [.own m] ∧ Pc i m ∧ m.length ≤ segs.length + 1 ∧ (0 < m.length ↔ Has k p segs x0 y0 x1 y1) := by
  have lp := fun acc h1 h2 => i_pieces_loop hX (i := i) (k := k) (q := q) (nm := nm) (p := p) (x0 := x0) (y0 := y0) (x1 := x1) (y1 := y1) hs hl segs.length 0 acc (by omega) (by omega) (by omega) h1 h2
  have hpar : Tot (VV 100 [.agg [iD i, iD k, iD q, sD nm, .s false p]]) fun r => r = [.own segs] := ⟨_, he, rfl⟩
  rw [b54 hX, e54]
  refine Tot.cond (fun hk => ?_) fun hk => ?_
  · have hk := eq_of_beq hk
    subst hk
    have hpl := hpl rfl
    refine Tot.cond (fun h => by cases h) fun _ => ?_
    refine Tot.getE (by omega) (by omega) hp.two fun r _ hr => ?_
    obtain ⟨x, y, rfl⟩ := hp r hr
    repeat (first | ((with_reducible refine Tot.rI (n := ?_) ?_ ?_); rotate_left; exact rfl) | ((with_reducible refine Tot.rB (n := ?_) ?_ ?_); rotate_left; exact rfl) | ((with_reducible refine Tot.rS (n := ?_) ?_ ?_); rotate_left; exact rfl) | ((with_reducible refine Tot.rM (n := ?_) ?_ ?_); rotate_left; exact rfl) | ((with_reducible refine Tot.rO (n := ?_) ?_ ?_); rotate_left; exact rfl) | ((with_reducible refine Tot.dI (n := ?_) ?_ ?_); rotate_left; exact rfl) | ((with_reducible refine Tot.dB (n := ?_) ?_ ?_); rotate_left; exact rfl) | ((with_reducible refine Tot.dS (n := ?_) ?_ ?_); rotate_left; exact rfl) | ((with_reducible refine Tot.dL (n := ?_) (f := ?_) ?_ ?_); rotate_left 2; exact rfl))
    have huniq : ∀ x' y', [iD x', iD y'] ∈ p → x' = x ∧ y' = y := by
      intro x' y' h'
      match p, hpl with
      | [r], _ =>
        rw [List.mem_singleton] at hr h'
        rw [← hr] at h'
        simp only [List.cons.injEq, D.v.injEq, Value.int.injEq, true_and, and_true] at h'
        exact h'
    refine Tot.bind (i_inbox hX) ?_
    rintro _ ⟨u, rfl, hu⟩
    repeat (first | ((with_reducible refine Tot.rI (n := ?_) ?_ ?_); rotate_left; exact rfl) | ((with_reducible refine Tot.rB (n := ?_) ?_ ?_); rotate_left; exact rfl) | ((with_reducible refine Tot.rS (n := ?_) ?_ ?_); rotate_left; exact rfl) | ((with_reducible refine Tot.rM (n := ?_) ?_ ?_); rotate_left; exact rfl) | ((with_reducible refine Tot.rO (n := ?_) ?_ ?_); rotate_left; exact rfl) | ((with_reducible refine Tot.dI (n := ?_) ?_ ?_); rotate_left; exact rfl) | ((with_reducible refine Tot.dB (n := ?_) ?_ ?_); rotate_left; exact rfl) | ((with_reducible refine Tot.dS (n := ?_) ?_ ?_); rotate_left; exact rfl) | ((with_reducible refine Tot.dL (n := ?_) (f := ?_) ?_ ?_); rotate_left 2; exact rfl))
    refine Tot.cond (fun h => ?_) fun h => ?_
    · subst h
      refine Tot.chk (by simp only [List.length_cons, List.length_nil]; omega) ?_
      refine Tot.bind (hpar) ?_
      rintro _ rfl
      repeat (first | ((with_reducible refine Tot.rI (n := ?_) ?_ ?_); rotate_left; exact rfl) | ((with_reducible refine Tot.rB (n := ?_) ?_ ?_); rotate_left; exact rfl) | ((with_reducible refine Tot.rS (n := ?_) ?_ ?_); rotate_left; exact rfl) | ((with_reducible refine Tot.rM (n := ?_) ?_ ?_); rotate_left; exact rfl) | ((with_reducible refine Tot.rO (n := ?_) ?_ ?_); rotate_left; exact rfl) | ((with_reducible refine Tot.dI (n := ?_) ?_ ?_); rotate_left; exact rfl) | ((with_reducible refine Tot.dB (n := ?_) ?_ ?_); rotate_left; exact rfl) | ((with_reducible refine Tot.dS (n := ?_) ?_ ?_); rotate_left; exact rfl) | ((with_reducible refine Tot.dL (n := ?_) (f := ?_) ?_ ?_); rotate_left 2; exact rfl))
      refine (lp _ (Pc.nil.app Pc.one) (by simp)).mono ?_
      rintro _ ⟨m, rfl, hm, hml, hiff⟩
      exact ⟨m, rfl, hm, hml, hiff.trans ⟨fun _ => .inl ⟨rfl, x, y, hr, hu.mp rfl⟩, fun _ => .inl (by simp)⟩⟩
    · subst h
      refine Tot.bind (hpar) ?_
      rintro _ rfl
      repeat (first | ((with_reducible refine Tot.rI (n := ?_) ?_ ?_); rotate_left; exact rfl) | ((with_reducible refine Tot.rB (n := ?_) ?_ ?_); rotate_left; exact rfl) | ((with_reducible refine Tot.rS (n := ?_) ?_ ?_); rotate_left; exact rfl) | ((with_reducible refine Tot.rM (n := ?_) ?_ ?_); rotate_left; exact rfl) | ((with_reducible refine Tot.rO (n := ?_) ?_ ?_); rotate_left; exact rfl) | ((with_reducible refine Tot.dI (n := ?_) ?_ ?_); rotate_left; exact rfl) | ((with_reducible refine Tot.dB (n := ?_) ?_ ?_); rotate_left; exact rfl) | ((with_reducible refine Tot.dS (n := ?_) ?_ ?_); rotate_left; exact rfl) | ((with_reducible refine Tot.dL (n := ?_) (f := ?_) ?_ ?_); rotate_left 2; exact rfl))
      refine (lp _ Pc.nil (by simp)).mono ?_
      rintro _ ⟨m, rfl, hm, hml, hiff⟩
      refine ⟨m, rfl, hm, hml, hiff.trans ⟨fun h => ?_, fun h => ?_⟩⟩
      · rcases h with h | h
        · simp at h
        · exact .inr h
      · rcases h with ⟨_, x', y', h1, h2⟩ | h
        · obtain ⟨rfl, rfl⟩ := huniq _ _ h1
          exact absurd (hu.mpr h2) (by decide)
        · exact .inr h
  · have hk : k ≠ 1 := fun h => by subst h; exact absurd hk (by decide)
    refine Tot.bind (hpar) ?_
    rintro _ rfl
    repeat (first | ((with_reducible refine Tot.rI (n := ?_) ?_ ?_); rotate_left; exact rfl) | ((with_reducible refine Tot.rB (n := ?_) ?_ ?_); rotate_left; exact rfl) | ((with_reducible refine Tot.rS (n := ?_) ?_ ?_); rotate_left; exact rfl) | ((with_reducible refine Tot.rM (n := ?_) ?_ ?_); rotate_left; exact rfl) | ((with_reducible refine Tot.rO (n := ?_) ?_ ?_); rotate_left; exact rfl) | ((with_reducible refine Tot.dI (n := ?_) ?_ ?_); rotate_left; exact rfl) | ((with_reducible refine Tot.dB (n := ?_) ?_ ?_); rotate_left; exact rfl) | ((with_reducible refine Tot.dS (n := ?_) ?_ ?_); rotate_left; exact rfl) | ((with_reducible refine Tot.dL (n := ?_) (f := ?_) ?_ ?_); rotate_left 2; exact rfl))
    refine (lp _ Pc.nil (by simp)).mono ?_
    rintro _ ⟨m, rfl, hm, hml, hiff⟩
    refine ⟨m, rfl, hm, hml, hiff.trans ⟨fun h => ?_, fun h => ?_⟩⟩
    · rcases h with h | h
      · simp at h
      · exact .inr h
    · rcases h with ⟨h, _⟩ | h
      · exact absurd h hk
      · exact .inr h
theorem i_seen {l : List Rw} {wx wy s v : Int} (hl : Fts l) (hn : l.length ≤ 1000) : Tot (VV 13 [.c (.s false l), .agg [iD wx, iD wy, iD s, iD v]]) fun r => ∃ m, r = [.own m] ∧ m.length ≤ l.length ∧ ∀ r ∈ m, ∃ x, r = [iD x] ∧ isWin wx wy s v = true ∧ VV 41 [.c (.s false l)] = some [bR true] ∧ (∀ r ∈ l, FtOK r) ∧ Seen l x wx wy (wx + s) (wy + s) := by
  rw [b13 hX, e13]
  obtain ⟨_, hso, b, rfl, hb⟩ := j_source hX hl hn
  refine Tot.bind (P := fun r => r = [bR b]) ⟨_, hso, rfl⟩ ?_
  rintro _ rfl
  repeat (first | ((with_reducible refine Tot.rI (n := ?_) ?_ ?_); rotate_left; exact rfl) | ((with_reducible refine Tot.rB (n := ?_) ?_ ?_); rotate_left; exact rfl) | ((with_reducible refine Tot.rS (n := ?_) ?_ ?_); rotate_left; exact rfl) | ((with_reducible refine Tot.rM (n := ?_) ?_ ?_); rotate_left; exact rfl) | ((with_reducible refine Tot.rO (n := ?_) ?_ ?_); rotate_left; exact rfl) | ((with_reducible refine Tot.dI (n := ?_) ?_ ?_); rotate_left; exact rfl) | ((with_reducible refine Tot.dB (n := ?_) ?_ ?_); rotate_left; exact rfl) | ((with_reducible refine Tot.dS (n := ?_) ?_ ?_); rotate_left; exact rfl) | ((with_reducible refine Tot.dL (n := ?_) (f := ?_) ?_ ?_); rotate_left 2; exact rfl))
  refine Tot.cond (fun _ => .some ⟨[], rfl, by simp, fun _ h => by cases h⟩) fun h => ?_
  have hbt : b = true := by cases b <;> simp_all
  subst hbt
  have hok := hb rfl
  refine Tot.bind (i_win hX) ?_
  rintro _ ⟨u, rfl, hu⟩
  repeat (first | ((with_reducible refine Tot.rI (n := ?_) ?_ ?_); rotate_left; exact rfl) | ((with_reducible refine Tot.rB (n := ?_) ?_ ?_); rotate_left; exact rfl) | ((with_reducible refine Tot.rS (n := ?_) ?_ ?_); rotate_left; exact rfl) | ((with_reducible refine Tot.rM (n := ?_) ?_ ?_); rotate_left; exact rfl) | ((with_reducible refine Tot.rO (n := ?_) ?_ ?_); rotate_left; exact rfl) | ((with_reducible refine Tot.dI (n := ?_) ?_ ?_); rotate_left; exact rfl) | ((with_reducible refine Tot.dB (n := ?_) ?_ ?_); rotate_left; exact rfl) | ((with_reducible refine Tot.dS (n := ?_) ?_ ?_); rotate_left; exact rfl) | ((with_reducible refine Tot.dL (n := ?_) (f := ?_) ?_ ?_); rotate_left 2; exact rfl))
  refine Tot.cond (fun _ => .some ⟨[], rfl, by simp, fun _ h => by cases h⟩) fun h => ?_
  have hut : u = true := by cases u <;> simp_all
  have hw := hu.mp hut
  suffices h : ∀ (k : Nat) (i : Int) (m : List Rw), 0 ≤ i → i ≤ l.length → l.length - i ≤ k → (m.length : Int) ≤ i → (∀ r ∈ m, ∃ x, r = [iD x] ∧ Seen l x wx wy (wx + s) (wy + s)) → Tot (VP 13 5 (s13_5 l l.length i wx wy s v m)) fun r => ∃ m, r = [.own m] ∧ m.length ≤ l.length ∧ ∀ r ∈ m, ∃ x, r = [iD x] ∧ isWin wx wy s v = true ∧ VV 41 [.c (.s false l)] = some [bR true] ∧ (∀ r ∈ l, FtOK r) ∧ Seen l x wx wy (wx + s) (wy + s) from h l.length 0 [] (by omega) (by omega) (by omega) (by simp) (fun _ h => by cases h)
  intro k
  induction k with
  | zero =>
    intro i m h0 h1 hk hml hm
    rw [p13 hX, e13_5]
    refine Tot.cond (fun hx => ?_) fun hx => .some ⟨m, rfl, by omega, fun r hr => ?_⟩
    · simp only [decide_eq_true_eq] at hx; omega
    · obtain ⟨x, hx, hs⟩ := hm r hr
      exact ⟨x, hx, hw, hso, hok, hs⟩
  | succ k ih =>
    intro i m h0 h1 hk hml hm
    rw [p13 hX, e13_5]
    refine Tot.cond (fun hx => ?_) fun hx => .some ⟨m, rfl, by omega, fun r hr => ?_⟩
    · simp only [decide_eq_true_eq] at hx
      rw [w64 (x := i + 1) (by omega) (by omega)]
      refine Tot.getE h0 hx hl.five fun r he hr => ?_
      obtain ⟨id, kk, q, nm, f, p, rfl, hp, hpl, hnm, hk1⟩ := hok r hr
      repeat (first | ((with_reducible refine Tot.rI (n := ?_) ?_ ?_); rotate_left; exact rfl) | ((with_reducible refine Tot.rB (n := ?_) ?_ ?_); rotate_left; exact rfl) | ((with_reducible refine Tot.rS (n := ?_) ?_ ?_); rotate_left; exact rfl) | ((with_reducible refine Tot.rM (n := ?_) ?_ ?_); rotate_left; exact rfl) | ((with_reducible refine Tot.rO (n := ?_) ?_ ?_); rotate_left; exact rfl) | ((with_reducible refine Tot.dI (n := ?_) ?_ ?_); rotate_left; exact rfl) | ((with_reducible refine Tot.dB (n := ?_) ?_ ?_); rotate_left; exact rfl) | ((with_reducible refine Tot.dS (n := ?_) ?_ ?_); rotate_left; exact rfl) | ((with_reducible refine Tot.dL (n := ?_) (f := ?_) ?_ ?_); rotate_left 2; exact rfl))
      refine Tot.bind (i_winbox hX hw) ?_
      rintro _ rfl
      repeat (first | ((with_reducible refine Tot.rI (n := ?_) ?_ ?_); rotate_left; exact rfl) | ((with_reducible refine Tot.rB (n := ?_) ?_ ?_); rotate_left; exact rfl) | ((with_reducible refine Tot.rS (n := ?_) ?_ ?_); rotate_left; exact rfl) | ((with_reducible refine Tot.rM (n := ?_) ?_ ?_); rotate_left; exact rfl) | ((with_reducible refine Tot.rO (n := ?_) ?_ ?_); rotate_left; exact rfl) | ((with_reducible refine Tot.dI (n := ?_) ?_ ?_); rotate_left; exact rfl) | ((with_reducible refine Tot.dB (n := ?_) ?_ ?_); rotate_left; exact rfl) | ((with_reducible refine Tot.dS (n := ?_) ?_ ?_); rotate_left; exact rfl) | ((with_reducible refine Tot.dL (n := ?_) (f := ?_) ?_ ?_); rotate_left 2; exact rfl))
      obtain ⟨_, hpa, segs, rfl, hsg, hsl⟩ := j_parts hX (i := id) (k := kk) (q := q) (nm := nm) hp (by omega) (by omega)
      refine Tot.bind (i_pieces hX hp hk1 hpa hsg (by omega)) ?_
      rintro _ ⟨m2, rfl, hm2, -, hiff⟩
      repeat (first | ((with_reducible refine Tot.rI (n := ?_) ?_ ?_); rotate_left; exact rfl) | ((with_reducible refine Tot.rB (n := ?_) ?_ ?_); rotate_left; exact rfl) | ((with_reducible refine Tot.rS (n := ?_) ?_ ?_); rotate_left; exact rfl) | ((with_reducible refine Tot.rM (n := ?_) ?_ ?_); rotate_left; exact rfl) | ((with_reducible refine Tot.rO (n := ?_) ?_ ?_); rotate_left; exact rfl) | ((with_reducible refine Tot.dI (n := ?_) ?_ ?_); rotate_left; exact rfl) | ((with_reducible refine Tot.dB (n := ?_) ?_ ?_); rotate_left; exact rfl) | ((with_reducible refine Tot.dS (n := ?_) ?_ ?_); rotate_left; exact rfl) | ((with_reducible refine Tot.dL (n := ?_) (f := ?_) ?_ ?_); rotate_left 2; exact rfl))
      refine Tot.cond (fun h => ?_) fun h => ih _ _ (by omega) (by omega) (by omega) (by omega) hm
      simp only [decide_eq_true_eq] at h
      refine Tot.chk (by simp only [List.length_cons, List.length_nil]; omega) (ih _ _ (by omega) (by omega) (by omega) (by simp only [List.length_append, List.length_cons, List.length_nil]; omega) ?_)
      intro r' hr'
      rcases List.mem_append.mp hr' with hr' | hr'
      · exact hm r' hr'
      · rw [List.mem_singleton] at hr'
        exact ⟨id, hr', kk, q, nm, f, p, segs, hr, hpa, hiff.mp (by omega)⟩
    · obtain ⟨x, hx, hs⟩ := hm r hr
      exact ⟨x, hx, hw, hso, hok, hs⟩
end
end Go.Proofs.YtoiefmhmohhaeaaGreat.VE
/- The program: tiles of a window, pieces of tiles. -/
set_option linter.unusedVariables false
set_option linter.unusedSimpArgs false
namespace Go.Proofs.YtoiefmhmohhaeaaGreat.VE

/-- Ints, as rows, below a bound, ascending. -/
def Asc (l : List Rw) (n : Int) : Prop := (∀ r ∈ l, ∃ x, r = [iD x] ∧ 0 ≤ x ∧ x < n) ∧ ∀ (k : Nat) (x y : Int), l[k]? = some [iD x] → l[k + 1]? = some [iD y] → x < y
theorem Asc.nil {n : Int} : Asc [] n := ⟨fun _ h => (by cases h), fun k x y h => (by simp at h)⟩
theorem Asc.mono {l : List Rw} {m n : Int} (h : Asc l m) (hn : m ≤ n) : Asc l n := ⟨fun r hr => by obtain ⟨x, a, b, c⟩ := h.1 r hr; exact ⟨x, a, b, by omega⟩, h.2⟩
theorem Asc.snoc {l : List Rw} {n : Int} (h : Asc l n) (h0 : 0 ≤ n) : Asc (l ++ [[iD n]]) (n + 1) := by
  refine ⟨fun r hr => ?_, fun k x y hx hy => ?_⟩
  · rcases List.mem_append.mp hr with hr | hr
    · obtain ⟨x, a, b, c⟩ := h.1 r hr; exact ⟨x, a, b, by omega⟩
    · rw [List.mem_singleton] at hr; exact ⟨n, hr, h0, by omega⟩
  · by_cases hk : k + 1 < l.length
    · rw [List.getElem?_append_left (by omega)] at hx
      rw [List.getElem?_append_left hk] at hy
      exact h.2 k x y hx hy
    · have hlt : k + 1 < (l ++ [[iD n]]).length := by
        rcases Nat.lt_or_ge (k + 1) (l ++ [[iD n]]).length with h | h
        · exact h
        · rw [List.getElem?_eq_none h] at hy; cases hy
      simp only [List.length_append, List.length_cons, List.length_nil] at hlt
      have hk' : k + 1 = l.length := by omega
      rw [List.getElem?_append_left (by omega)] at hx
      rw [List.getElem?_append_right (by omega), hk', Nat.sub_self] at hy
      simp only [List.getElem?_cons_zero, Option.some.injEq, List.cons.injEq, D.v.injEq, Value.int.injEq, true_and, and_true] at hy
      subst hy
      obtain ⟨x', e, _, hlt⟩ := h.1 _ (List.mem_of_getElem? hx)
      simp only [List.cons.injEq, D.v.injEq, Value.int.injEq, true_and, and_true] at e
      omega
theorem Asc.one {l : List Rw} {n : Int} (h : Asc l n) : ∀ r ∈ l, r.length = 1 := fun r hr => by obtain ⟨x, rfl, _⟩ := h.1 r hr; rfl
theorem Asc.old {l : List Rw} {n : Int} (h : ∀ r ∈ l, ∃ x, r = [iD x]) : oldL l = l := by
  induction l with
  | nil => rfl
  | cons r l ih =>
    obtain ⟨x, rfl⟩ := h r (List.mem_cons_self ..)
    show _ :: oldL l = _
    rw [ih fun r hr => h r (List.mem_cons_of_mem _ hr)]; rfl
/-- Pieces of any feature. -/
def Pa (l : List Rw) : Prop := ∀ r ∈ l, ∃ i x, r = [iD i, iD x]
theorem Pa.app {l m : List Rw} (h : Pa l) (hm : Pa m) : Pa (l ++ m) := fun r hr => by
  rcases List.mem_append.mp hr with hr | hr
  · exact h r hr
  · exact hm r hr
theorem Pa.nil : Pa [] := fun _ h => by cases h
section
variable (hX : ExtFin tE)
include hX
theorem i_ascends {l : List Rw} {n : Int} (h : Asc l n) (hn : l.length ≤ 1000000) : Tot (VV 16 [.c (.s false l)]) fun r => r = [bR true] := by
  rw [b16 hX, e16]
  suffices hh : ∀ (k : Nat) (i : Int), 1 ≤ i → l.length - i ≤ k → i ≤ l.length + 1 → Tot (VP 16 2 (s16_2 l i)) fun r => r = [bR true] from hh l.length 1 (by omega) (by omega) (by omega)
  intro k
  induction k with
  | zero =>
    intro i h0 hk _
    rw [p16 hX, e16_2]
    refine Tot.cond (fun hx => ?_) fun hx => .some rfl
    simp only [decide_eq_true_eq] at hx; omega
  | succ k ih =>
    intro i h0 hk h2
    rw [p16 hX, e16_2]
    refine Tot.cond (fun hx => ?_) fun hx => .some rfl
    simp only [decide_eq_true_eq] at hx
    rw [w64 (x := i - 1) (by omega) (by omega), w64 (x := i + 1) (by omega) (by omega)]
    refine Tot.getE (by omega) (by omega) h.one fun r he hr => ?_
    obtain ⟨x, rfl, _⟩ := h.1 r hr
    repeat (first | ((with_reducible refine Tot.rI (n := ?_) ?_ ?_); rotate_left; exact rfl) | ((with_reducible refine Tot.rB (n := ?_) ?_ ?_); rotate_left; exact rfl) | ((with_reducible refine Tot.rS (n := ?_) ?_ ?_); rotate_left; exact rfl) | ((with_reducible refine Tot.rM (n := ?_) ?_ ?_); rotate_left; exact rfl) | ((with_reducible refine Tot.rO (n := ?_) ?_ ?_); rotate_left; exact rfl) | ((with_reducible refine Tot.dI (n := ?_) ?_ ?_); rotate_left; exact rfl) | ((with_reducible refine Tot.dB (n := ?_) ?_ ?_); rotate_left; exact rfl) | ((with_reducible refine Tot.dS (n := ?_) ?_ ?_); rotate_left; exact rfl) | ((with_reducible refine Tot.dL (n := ?_) (f := ?_) ?_ ?_); rotate_left 2; exact rfl))
    refine Tot.getE (by omega) hx h.one fun r he2 hr => ?_
    obtain ⟨y, rfl, _⟩ := h.1 r hr
    repeat (first | ((with_reducible refine Tot.rI (n := ?_) ?_ ?_); rotate_left; exact rfl) | ((with_reducible refine Tot.rB (n := ?_) ?_ ?_); rotate_left; exact rfl) | ((with_reducible refine Tot.rS (n := ?_) ?_ ?_); rotate_left; exact rfl) | ((with_reducible refine Tot.rM (n := ?_) ?_ ?_); rotate_left; exact rfl) | ((with_reducible refine Tot.rO (n := ?_) ?_ ?_); rotate_left; exact rfl) | ((with_reducible refine Tot.dI (n := ?_) ?_ ?_); rotate_left; exact rfl) | ((with_reducible refine Tot.dB (n := ?_) ?_ ?_); rotate_left; exact rfl) | ((with_reducible refine Tot.dS (n := ?_) ?_ ?_); rotate_left; exact rfl) | ((with_reducible refine Tot.dL (n := ?_) (f := ?_) ?_ ?_); rotate_left 2; exact rfl))
    have hlt := h.2 _ x y he (by rw [← he2]; congr 1; omega)
    refine Tot.cond (fun hc => ?_) fun _ => ih _ (by omega) (by omega) (by omega)
    simp only [decide_eq_true_eq] at hc; omega
theorem i_tilebox' {t : Int} (h0 : 0 ≤ t) (h1 : t < 441) : Tot (VV 56 [.c (iD t)]) fun r => r = [iR (10 * (t % 21)), iR (10 * (t / 21)), iR (minI (10 * (t % 21) + 10) 200), iR (minI (10 * (t / 21) + 10) 200), bR true] := by
  have := i_tilebox hX (i := t % 21) (j := t / 21) (by omega) (by omega) (by omega) (by omega)
  rwa [show 21 * (t / 21) + t % 21 = t by omega] at this
theorem i_tilesfor {wx wy s v : Int} : Tot (VV 14 [.agg [iD wx, iD wy, iD s, iD v]]) fun r => ∃ m, r = [.own m] ∧ Asc m 441 ∧ m.length ≤ 441 ∧ (isWin wx wy s v = false → m = []) ∧
    ∀ i j, isWin wx wy s v = true → 0 ≤ i → i ≤ 19 → 0 ≤ j → j ≤ 19 → TileOf i j wx wy s → [iD (21 * j + i)] ∈ m := by
  rw [b14 hX, e14]
  refine Tot.bind (i_win hX) ?_
  rintro _ ⟨u, rfl, hu⟩
  repeat (first | ((with_reducible refine Tot.rI (n := ?_) ?_ ?_); rotate_left; exact rfl) | ((with_reducible refine Tot.rB (n := ?_) ?_ ?_); rotate_left; exact rfl) | ((with_reducible refine Tot.rS (n := ?_) ?_ ?_); rotate_left; exact rfl) | ((with_reducible refine Tot.rM (n := ?_) ?_ ?_); rotate_left; exact rfl) | ((with_reducible refine Tot.rO (n := ?_) ?_ ?_); rotate_left; exact rfl) | ((with_reducible refine Tot.dI (n := ?_) ?_ ?_); rotate_left; exact rfl) | ((with_reducible refine Tot.dB (n := ?_) ?_ ?_); rotate_left; exact rfl) | ((with_reducible refine Tot.dS (n := ?_) ?_ ?_); rotate_left; exact rfl) | ((with_reducible refine Tot.dL (n := ?_) (f := ?_) ?_ ?_); rotate_left 2; exact rfl))
  refine Tot.cond (fun h => .some ⟨[], rfl, Asc.nil, by simp, fun _ => rfl, fun _ _ hw => ?_⟩) fun h => ?_
  · rw [hu.mpr hw] at h; cases h
  have hut : u = true := by cases u <;> simp_all
  have hw := hu.mp hut
  suffices hh : ∀ (k : Nat) (t : Int) (m : List Rw), 0 ≤ t → t ≤ 441 → 441 - t ≤ k → Asc m t → (m.length : Int) ≤ t → (∀ i j, 0 ≤ i → i ≤ 19 → 0 ≤ j → j ≤ 19 → 21 * j + i < t → TileOf i j wx wy s → [iD (21 * j + i)] ∈ m) →
      Tot (VP 14 5 (s14_5 t wx wy s v m)) fun r => ∃ m, r = [.own m] ∧ Asc m 441 ∧ m.length ≤ 441 ∧ ∀ i j, 0 ≤ i → i ≤ 19 → 0 ≤ j → j ≤ 19 → TileOf i j wx wy s → [iD (21 * j + i)] ∈ m by
    refine (hh 441 0 [] (by omega) (by omega) (by omega) Asc.nil (by simp) (fun _ _ _ _ _ _ h => by omega)).mono ?_
    rintro _ ⟨m, rfl, h1, h2, h3⟩
    exact ⟨m, rfl, h1, h2, fun h => (by rw [hw] at h; cases h), fun i j _ => h3 i j⟩
  intro k
  induction k with
  | zero =>
    intro t m h0 h1 hk hm hml hmem
    rw [p14 hX, e14_5]
    refine Tot.cond (fun hx => ?_) fun hx => .some ⟨m, rfl, hm.mono h1, by omega, fun i j a b c d => hmem i j a b c d (by omega)⟩
    simp only [decide_eq_true_eq] at hx; omega
  | succ k ih =>
    intro t m h0 h1 hk hm hml hmem
    rw [p14 hX, e14_5]
    refine Tot.cond (fun hx => ?_) fun hx => .some ⟨m, rfl, hm.mono h1, by omega, fun i j a b c d => hmem i j a b c d (by simp only [decide_eq_false_iff_not] at hx; omega)⟩
    simp only [decide_eq_true_eq] at hx
    rw [w64 (x := t + 1) (by omega) (by omega)]
    refine Tot.bind (i_tilebox' hX h0 hx) ?_
    rintro _ rfl
    repeat (first | ((with_reducible refine Tot.rI (n := ?_) ?_ ?_); rotate_left; exact rfl) | ((with_reducible refine Tot.rB (n := ?_) ?_ ?_); rotate_left; exact rfl) | ((with_reducible refine Tot.rS (n := ?_) ?_ ?_); rotate_left; exact rfl) | ((with_reducible refine Tot.rM (n := ?_) ?_ ?_); rotate_left; exact rfl) | ((with_reducible refine Tot.rO (n := ?_) ?_ ?_); rotate_left; exact rfl) | ((with_reducible refine Tot.dI (n := ?_) ?_ ?_); rotate_left; exact rfl) | ((with_reducible refine Tot.dB (n := ?_) ?_ ?_); rotate_left; exact rfl) | ((with_reducible refine Tot.dS (n := ?_) ?_ ?_); rotate_left; exact rfl) | ((with_reducible refine Tot.dL (n := ?_) (f := ?_) ?_ ?_); rotate_left 2; exact rfl))
    refine Tot.bind (i_winbox hX hw) ?_
    rintro _ rfl
    repeat (first | ((with_reducible refine Tot.rI (n := ?_) ?_ ?_); rotate_left; exact rfl) | ((with_reducible refine Tot.rB (n := ?_) ?_ ?_); rotate_left; exact rfl) | ((with_reducible refine Tot.rS (n := ?_) ?_ ?_); rotate_left; exact rfl) | ((with_reducible refine Tot.rM (n := ?_) ?_ ?_); rotate_left; exact rfl) | ((with_reducible refine Tot.rO (n := ?_) ?_ ?_); rotate_left; exact rfl) | ((with_reducible refine Tot.dI (n := ?_) ?_ ?_); rotate_left; exact rfl) | ((with_reducible refine Tot.dB (n := ?_) ?_ ?_); rotate_left; exact rfl) | ((with_reducible refine Tot.dS (n := ?_) ?_ ?_); rotate_left; exact rfl) | ((with_reducible refine Tot.dL (n := ?_) (f := ?_) ?_ ?_); rotate_left 2; exact rfl))
    refine Tot.bind (i_boxesoverlap hX) ?_
    rintro _ ⟨b, rfl, hb⟩
    repeat (first | ((with_reducible refine Tot.rI (n := ?_) ?_ ?_); rotate_left; exact rfl) | ((with_reducible refine Tot.rB (n := ?_) ?_ ?_); rotate_left; exact rfl) | ((with_reducible refine Tot.rS (n := ?_) ?_ ?_); rotate_left; exact rfl) | ((with_reducible refine Tot.rM (n := ?_) ?_ ?_); rotate_left; exact rfl) | ((with_reducible refine Tot.rO (n := ?_) ?_ ?_); rotate_left; exact rfl) | ((with_reducible refine Tot.dI (n := ?_) ?_ ?_); rotate_left; exact rfl) | ((with_reducible refine Tot.dB (n := ?_) ?_ ?_); rotate_left; exact rfl) | ((with_reducible refine Tot.dS (n := ?_) ?_ ?_); rotate_left; exact rfl) | ((with_reducible refine Tot.dL (n := ?_) (f := ?_) ?_ ?_); rotate_left 2; exact rfl))
    have new : ∀ i j, 0 ≤ i → i ≤ 19 → 0 ≤ j → j ≤ 19 → ¬ 21 * j + i < t → 21 * j + i < t + 1 → TileOf i j wx wy s → b = true ∧ 21 * j + i = t := by
      intro i j i0 i1 j0 j1 hlt hlt' ht
      have e1 : t % 21 = i := by omega
      have e2 : t / 21 = j := by omega
      rw [e1, e2] at hb
      exact ⟨hb.mpr ht, by omega⟩
    refine Tot.cond (fun hbt => ?_) fun hbf => ?_
    · refine Tot.chk (by simp only [List.length_cons, List.length_nil]; omega) (ih _ _ (by omega) (by omega) (by omega) (hm.snoc h0) (by simp only [List.length_append, List.length_cons, List.length_nil]; omega) ?_)
      intro i j i0 i1 j0 j1 hlt ht
      by_cases hlt' : 21 * j + i < t
      · exact List.mem_append_left _ (hmem i j i0 i1 j0 j1 hlt' ht)
      · obtain ⟨_, e⟩ := new i j i0 i1 j0 j1 hlt' hlt ht
        rw [e]
        exact List.mem_append_right _ (List.mem_singleton.mpr rfl)
    · refine ih _ _ (by omega) (by omega) (by omega) (hm.mono (by omega)) (by omega) ?_
      intro i j i0 i1 j0 j1 hlt ht
      by_cases hlt' : 21 * j + i < t
      · exact hmem i j i0 i1 j0 j1 hlt' ht
      · obtain ⟨e, _⟩ := new i j i0 i1 j0 j1 hlt' hlt ht
        rw [hbf] at e; cases e
theorem i_piecesin {l : List Rw} {t : Int} (hl : Fts l) (hn : l.length ≤ 100) (h0 : 0 ≤ t) (h1 : t < 441) : Tot (VV 58 [.c (.s false l), .c (iD t)]) fun r => ∃ m, r = [.own m] ∧ Pa m ∧ m.length ≤ 200 * l.length ∧
    (VV 41 [.c (.s false l)] = some [bR true] → ∀ x, Seen l x (10 * (t % 21)) (10 * (t / 21)) (minI (10 * (t % 21) + 10) 200) (minI (10 * (t / 21) + 10) 200) → ∃ y, [iD x, iD y] ∈ m) := by
  rw [b58 hX, e58]
  refine Tot.bind (i_tilebox' hX h0 h1) ?_
  rintro _ rfl
  repeat (first | ((with_reducible refine Tot.rI (n := ?_) ?_ ?_); rotate_left; exact rfl) | ((with_reducible refine Tot.rB (n := ?_) ?_ ?_); rotate_left; exact rfl) | ((with_reducible refine Tot.rS (n := ?_) ?_ ?_); rotate_left; exact rfl) | ((with_reducible refine Tot.rM (n := ?_) ?_ ?_); rotate_left; exact rfl) | ((with_reducible refine Tot.rO (n := ?_) ?_ ?_); rotate_left; exact rfl) | ((with_reducible refine Tot.dI (n := ?_) ?_ ?_); rotate_left; exact rfl) | ((with_reducible refine Tot.dB (n := ?_) ?_ ?_); rotate_left; exact rfl) | ((with_reducible refine Tot.dS (n := ?_) ?_ ?_); rotate_left; exact rfl) | ((with_reducible refine Tot.dL (n := ?_) (f := ?_) ?_ ?_); rotate_left 2; exact rfl))
  refine Tot.cond (fun h => by cases h) fun _ => ?_
  obtain ⟨_, hso, b, rfl, hb⟩ := j_source hX hl (by omega)
  refine Tot.bind (P := fun r => r = [bR b]) ⟨_, hso, rfl⟩ ?_
  rintro _ rfl
  repeat (first | ((with_reducible refine Tot.rI (n := ?_) ?_ ?_); rotate_left; exact rfl) | ((with_reducible refine Tot.rB (n := ?_) ?_ ?_); rotate_left; exact rfl) | ((with_reducible refine Tot.rS (n := ?_) ?_ ?_); rotate_left; exact rfl) | ((with_reducible refine Tot.rM (n := ?_) ?_ ?_); rotate_left; exact rfl) | ((with_reducible refine Tot.rO (n := ?_) ?_ ?_); rotate_left; exact rfl) | ((with_reducible refine Tot.dI (n := ?_) ?_ ?_); rotate_left; exact rfl) | ((with_reducible refine Tot.dB (n := ?_) ?_ ?_); rotate_left; exact rfl) | ((with_reducible refine Tot.dS (n := ?_) ?_ ?_); rotate_left; exact rfl) | ((with_reducible refine Tot.dL (n := ?_) (f := ?_) ?_ ?_); rotate_left 2; exact rfl))
  refine Tot.cond (fun h => .some ⟨[], rfl, Pa.nil, by simp, fun hs => ?_⟩) fun h => ?_
  · rw [hso] at hs
    simp only [Option.some.injEq, List.cons.injEq, RC.v.injEq, Value.bool.injEq, and_true] at hs
    rw [hs] at h; cases h
  have hbt : b = true := by cases b <;> simp_all
  subst hbt
  have hok := hb rfl
  generalize 10 * (t % 21) = x0
  generalize 10 * (t / 21) = y0
  generalize minI (x0 + 10) 200 = x1
  generalize minI (y0 + 10) 200 = y1
  suffices hh : ∀ (k : Nat) (i : Int) (m : List Rw), 0 ≤ i → i ≤ l.length → l.length - i ≤ k → Pa m → (m.length : Int) ≤ 200 * i → (∀ x kk q nm f p segs, [iD x, iD kk, iD q, sD nm, .s f p] ∈ l.take i.toNat → VV 100 [.agg [iD x, iD kk, iD q, sD nm, .s false p]] = some [.own segs] → Has kk p segs x0 y0 x1 y1 → ∃ y, [iD x, iD y] ∈ m) →
      Tot (VP 58 6 (s58_6 l l.length i m x0 y0 x1 y1)) fun r => ∃ m, r = [.own m] ∧ Pa m ∧ m.length ≤ 200 * l.length ∧ ∀ x, Seen l x x0 y0 x1 y1 → ∃ y, [iD x, iD y] ∈ m by
    refine (hh l.length 0 [] (by omega) (by omega) (by omega) Pa.nil (by simp) (fun _ _ _ _ _ _ _ h => by simp at h)).mono ?_
    rintro _ ⟨m, rfl, h1, h2, h3⟩
    exact ⟨m, rfl, h1, h2, fun _ => h3⟩
  intro k
  induction k with
  | zero =>
    intro i m h0 h1 hk hm hml hmem
    rw [p58 hX, e58_6]
    refine Tot.cond (fun hx => ?_) fun hx => .some ⟨m, rfl, hm, by omega, ?_⟩
    · simp only [decide_eq_true_eq] at hx; omega
    · rintro x ⟨kk, q, nm, f, p, segs, a, b, c⟩
      exact hmem x kk q nm f p segs (by rwa [List.take_of_length_le (by omega)]) b c
  | succ k ih =>
    intro i m h0 h1 hk hm hml hmem
    rw [p58 hX, e58_6]
    refine Tot.cond (fun hx => ?_) fun hx => .some ⟨m, rfl, hm, by omega, ?_⟩
    · simp only [decide_eq_true_eq] at hx
      rw [w64 (x := i + 1) (by omega) (by omega)]
      refine Tot.getE h0 hx hl.five fun r he hr => ?_
      obtain ⟨id, kk, q, nm, f, p, rfl, hp, hpl, hnm, hk1⟩ := hok r hr
      repeat (first | ((with_reducible refine Tot.rI (n := ?_) ?_ ?_); rotate_left; exact rfl) | ((with_reducible refine Tot.rB (n := ?_) ?_ ?_); rotate_left; exact rfl) | ((with_reducible refine Tot.rS (n := ?_) ?_ ?_); rotate_left; exact rfl) | ((with_reducible refine Tot.rM (n := ?_) ?_ ?_); rotate_left; exact rfl) | ((with_reducible refine Tot.rO (n := ?_) ?_ ?_); rotate_left; exact rfl) | ((with_reducible refine Tot.dI (n := ?_) ?_ ?_); rotate_left; exact rfl) | ((with_reducible refine Tot.dB (n := ?_) ?_ ?_); rotate_left; exact rfl) | ((with_reducible refine Tot.dS (n := ?_) ?_ ?_); rotate_left; exact rfl) | ((with_reducible refine Tot.dL (n := ?_) (f := ?_) ?_ ?_); rotate_left 2; exact rfl))
      obtain ⟨_, hpa, segs, rfl, hsg, hsl⟩ := j_parts hX (i := id) (k := kk) (q := q) (nm := nm) hp (by omega) (by omega)
      refine Tot.bind (i_pieces hX hp hk1 hpa hsg (by omega)) ?_
      rintro _ ⟨m2, rfl, hm2, hm2l, hiff⟩
      repeat (first | ((with_reducible refine Tot.rI (n := ?_) ?_ ?_); rotate_left; exact rfl) | ((with_reducible refine Tot.rB (n := ?_) ?_ ?_); rotate_left; exact rfl) | ((with_reducible refine Tot.rS (n := ?_) ?_ ?_); rotate_left; exact rfl) | ((with_reducible refine Tot.rM (n := ?_) ?_ ?_); rotate_left; exact rfl) | ((with_reducible refine Tot.rO (n := ?_) ?_ ?_); rotate_left; exact rfl) | ((with_reducible refine Tot.dI (n := ?_) ?_ ?_); rotate_left; exact rfl) | ((with_reducible refine Tot.dB (n := ?_) ?_ ?_); rotate_left; exact rfl) | ((with_reducible refine Tot.dS (n := ?_) ?_ ?_); rotate_left; exact rfl) | ((with_reducible refine Tot.dL (n := ?_) (f := ?_) ?_ ?_); rotate_left 2; exact rfl))
      refine Tot.chk (by omega) (ih _ _ (by omega) (by omega) (by omega) (hm.app fun r hr => ?_) (by rw [List.length_append]; omega) ?_)
      · obtain ⟨x, e⟩ := hm2 r hr
        exact ⟨_, x, e⟩
      · intro x kk' q' nm' f' p' segs' hmm he' hh'
        rw [show (i + 1).toNat = i.toNat + 1 by omega, List.take_add_one, he] at hmm
        rcases List.mem_append.mp hmm with hmm | hmm
        · obtain ⟨y, hy⟩ := hmem x kk' q' nm' f' p' segs' hmm he' hh'
          exact ⟨y, List.mem_append_left _ hy⟩
        · simp only [Option.toList_some, List.mem_singleton, List.cons.injEq, D.v.injEq, D.s.injEq, Value.int.injEq, Value.string.injEq, true_and, and_true] at hmm
          obtain ⟨rfl, rfl, rfl, rfl, rfl, rfl⟩ := hmm
          rw [hpa] at he'
          simp only [Option.some.injEq, List.cons.injEq, RC.own.injEq, and_true] at he'
          subst he'
          have hpos := hiff.mpr hh'
          match m2, hpos with
          | r :: m2', _ =>
            obtain ⟨y, e⟩ := hm2 r (List.mem_cons_self ..)
            exact ⟨y, List.mem_append_right _ (by rw [← e]; exact List.mem_cons_self ..)⟩
    · simp only [decide_eq_false_iff_not] at hx
      rintro x ⟨kk, q, nm, f, p, segs, a, b, c⟩
      exact hmem x kk q nm f p segs (by rwa [List.take_of_length_le (by omega)]) b c
end
end Go.Proofs.YtoiefmhmohhaeaaGreat.VE
/- The program: pieces of tiles, joined. -/
set_option linter.unusedVariables false
set_option linter.unusedSimpArgs false
namespace Go.Proofs.YtoiefmhmohhaeaaGreat.VE

section
variable (hX : ExtFin tE)
include hX
/-- Compact's second loop: what lies ahead of the reader is as it was, all that was read lies ahead of the writer. -/
theorem compact_9 {l : List Rw} (hl : Pa l) (hn : l.length ≤ 100000000) (off : Nat) (ho1 : 1 ≤ off) (ho : off < l.length) : ∀ (k : Nat) (w j : Int) (m : List Rw), 1 ≤ j → off + j ≤ l.length → l.length - (off + j) ≤ k → m.length = l.length → Pa m → off ≤ w → w ≤ off + j - 1 →
    (∀ p : Nat, w ≤ p → m[p]? = l[p]?) → (∀ p : Nat, (p : Int) < off + j → ∀ r, l[p]? = some r → r ∈ m.take w.toNat) →
    Tot (VP 63 9 (s63_9 w off (l.length - off) j m)) fun r => ∃ (n : Int) (m' : List Rw), r = [iR n, .own m'] ∧ 0 ≤ n ∧ n ≤ l.length ∧ m'.length = l.length ∧ Pa (m'.take n.toNat) ∧ ∀ r ∈ l, r ∈ m'.take n.toNat := by
  have fin : ∀ (w j : Int) (m : List Rw), off + j = l.length → m.length = l.length → Pa m → off ≤ w → w ≤ off + j - 1 → (∀ p : Nat, (p : Int) < off + j → ∀ r, l[p]? = some r → r ∈ m.take w.toNat) →
      Tot ((chk ((0 : Int) ≤ w ∧ w ≤ (m.length : Int) ∧ (m.length : Int) ≤ (m.length : Int))).bind fun _ => (chk (w.toNat + (((m.length : Int)).toNat - w.toNat) ≤ m.length)).bind fun _ => (chk ((0 : Int) ≤ (0 : Int) ∧ (0 : Int) ≤ w ∧ w ≤ ((m.take w.toNat ++ List.replicate (((m.length : Int)).toNat - w.toNat) ([iD 0, iD 0] : List D) ++ m.drop (w.toNat + (((m.length : Int)).toNat - w.toNat))).length : Int))).bind fun _ => some [iR ((w.toNat - 0) : Int), .own (m.take w.toNat ++ List.replicate (((m.length : Int)).toNat - w.toNat) ([iD 0, iD 0] : List D) ++ m.drop (w.toNat + (((m.length : Int)).toNat - w.toNat)))])
        fun r => ∃ (n : Int) (m' : List Rw), r = [iR n, .own m'] ∧ 0 ≤ n ∧ n ≤ l.length ∧ m'.length = l.length ∧ Pa (m'.take n.toNat) ∧ ∀ r ∈ l, r ∈ m'.take n.toNat := by
    intro w j m hj hm hp h0 h1 ha
    have hlen : (m.take w.toNat ++ List.replicate (((m.length : Int)).toNat - w.toNat) ([iD 0, iD 0] : List D) ++ m.drop (w.toNat + (((m.length : Int)).toNat - w.toNat))).length = l.length := by
      simp only [List.length_append, List.length_take, List.length_drop, List.length_replicate]; omega
    refine Tot.chk (by omega) (Tot.chk (by omega) (Tot.chk (by omega) (.some ⟨_, _, rfl, by omega, by omega, hlen, ?_, ?_⟩)))
    all_goals
      have ht : ∀ X Y : List Rw, ((m.take w.toNat ++ X) ++ Y).take ((w.toNat : Int) - 0).toNat = m.take w.toNat := by
        intro X Y
        have e : ((w.toNat : Int) - 0).toNat = (m.take w.toNat).length := by rw [List.length_take]; omega
        rw [e, List.append_assoc, List.take_left']
        rfl
      rw [ht]
    · exact fun r hr => hp r (List.mem_of_mem_take hr)
    · intro r hr
      obtain ⟨p, hp⟩ := List.getElem?_of_mem hr
      have hlt : p < l.length := by
        rcases Nat.lt_or_ge p l.length with h | h
        · exact h
        · rw [List.getElem?_eq_none h] at hp; cases hp
      exact ha p (by omega) r hp
  intro k
  induction k with
  | zero =>
    intro w j m h0 h1 hk hm hp hw0 hw1 hsame hall
    rw [p63 hX, e63_9]
    refine Tot.cond (fun hx => ?_) fun hx => fin w j m (by omega) hm hp hw0 hw1 hall
    simp only [decide_eq_true_eq] at hx; omega
  | succ k ih =>
    intro w j m h0 h1 hk hm hp hw0 hw1 hsame hall
    rw [p63 hX, e63_9]
    refine Tot.cond (fun hx => ?_) fun hx => fin w j m (by simp only [decide_eq_false_iff_not] at hx; omega) hm hp hw0 hw1 hall
    simp only [decide_eq_true_eq] at hx
    rw [w64 (x := j - 1) (by omega) (by omega), w64 (x := j + 1) (by omega) (by omega), w64 (x := w + 1) (by omega) (by omega)]
    refine Tot.chk (by omega) (Tot.get (by omega) fun r he hr => ?_)
    obtain ⟨x, y, rfl⟩ := hp r hr
    repeat (first | ((with_reducible refine Tot.rI (n := ?_) ?_ ?_); rotate_left; exact rfl) | ((with_reducible refine Tot.rB (n := ?_) ?_ ?_); rotate_left; exact rfl) | ((with_reducible refine Tot.rS (n := ?_) ?_ ?_); rotate_left; exact rfl) | ((with_reducible refine Tot.rM (n := ?_) ?_ ?_); rotate_left; exact rfl) | ((with_reducible refine Tot.rO (n := ?_) ?_ ?_); rotate_left; exact rfl) | ((with_reducible refine Tot.dI (n := ?_) ?_ ?_); rotate_left; exact rfl) | ((with_reducible refine Tot.dB (n := ?_) ?_ ?_); rotate_left; exact rfl) | ((with_reducible refine Tot.dS (n := ?_) ?_ ?_); rotate_left; exact rfl) | ((with_reducible refine Tot.dL (n := ?_) (f := ?_) ?_ ?_); rotate_left 2; exact rfl))
    refine Tot.chk (by omega) (Tot.get (by omega) fun r he2 hr2 => ?_)
    obtain ⟨x2, y2, rfl⟩ := hp r hr2
    repeat (first | ((with_reducible refine Tot.rI (n := ?_) ?_ ?_); rotate_left; exact rfl) | ((with_reducible refine Tot.rB (n := ?_) ?_ ?_); rotate_left; exact rfl) | ((with_reducible refine Tot.rS (n := ?_) ?_ ?_); rotate_left; exact rfl) | ((with_reducible refine Tot.rM (n := ?_) ?_ ?_); rotate_left; exact rfl) | ((with_reducible refine Tot.rO (n := ?_) ?_ ?_); rotate_left; exact rfl) | ((with_reducible refine Tot.dI (n := ?_) ?_ ?_); rotate_left; exact rfl) | ((with_reducible refine Tot.dB (n := ?_) ?_ ?_); rotate_left; exact rfl) | ((with_reducible refine Tot.dS (n := ?_) ?_ ?_); rotate_left; exact rfl) | ((with_reducible refine Tot.dL (n := ?_) (f := ?_) ?_ ?_); rotate_left 2; exact rfl))
    have hl1 : l[off + j.toNat]? = some [iD x, iD y] := by rw [← hsame (off + j.toNat) (by omega)]; exact he
    have hl2 : l[off + (j - 1).toNat]? = some [iD x2, iD y2] := by rw [← hsame (off + (j - 1).toNat) (by omega)]; exact he2
    refine Tot.cond (fun hc => ?_) fun hc => ?_
    · refine Tot.chk (by omega) (Tot.get (by omega) fun r he3 hr3 => ?_)
      rw [he] at he3
      simp only [Option.some.injEq] at he3
      subst he3
      repeat (first | ((with_reducible refine Tot.rI (n := ?_) ?_ ?_); rotate_left; exact rfl) | ((with_reducible refine Tot.rB (n := ?_) ?_ ?_); rotate_left; exact rfl) | ((with_reducible refine Tot.rS (n := ?_) ?_ ?_); rotate_left; exact rfl) | ((with_reducible refine Tot.rM (n := ?_) ?_ ?_); rotate_left; exact rfl) | ((with_reducible refine Tot.rO (n := ?_) ?_ ?_); rotate_left; exact rfl) | ((with_reducible refine Tot.dI (n := ?_) ?_ ?_); rotate_left; exact rfl) | ((with_reducible refine Tot.dB (n := ?_) ?_ ?_); rotate_left; exact rfl) | ((with_reducible refine Tot.dS (n := ?_) ?_ ?_); rotate_left; exact rfl) | ((with_reducible refine Tot.dL (n := ?_) (f := ?_) ?_ ?_); rotate_left 2; exact rfl))
      refine Tot.chk (by omega) (Tot.get (by omega) fun r he4 hr4 => ?_)
      obtain ⟨x4, y4, rfl⟩ := hp r hr4
      refine ih (w + 1) (j + 1) _ (by omega) (by omega) (by omega) (by rw [List.length_set]; exact hm) ?_ (by omega) (by omega) ?_ ?_
      · intro r' hr'
        rcases List.mem_or_eq_of_mem_set hr' with h | rfl
        · exact hp r' h
        · exact ⟨x, y, rfl⟩
      · intro p hpw
        rw [List.getElem?_set_ne (by omega)]
        exact hsame p (by omega)
      · intro p hpj r' hr'
        have ht : ∀ v : Rw, (m.set w.toNat v).take (w + 1).toNat = m.take w.toNat ++ [v] := by
          intro v
          rw [show (w + 1).toNat = w.toNat + 1 by omega, List.take_add_one, List.take_set_of_le (Nat.le_refl _), List.getElem?_set_self (by omega)]
          rfl
        rw [ht]
        by_cases hpj' : (p : Int) < off + j
        · exact List.mem_append_left _ (hall p hpj' r' hr')
        · have hpe : p = off + j.toNat := by omega
          subst hpe
          rw [hl1] at hr'
          simp only [Option.some.injEq] at hr'
          subst hr'
          exact List.mem_append_right _ (List.mem_singleton.mpr rfl)
    · refine ih w (j + 1) _ (by omega) (by omega) (by omega) hm hp (by omega) (by omega) hsame ?_
      intro p hpj r' hr'
      by_cases hpj' : (p : Int) < off + j
      · exact hall p hpj' r' hr'
      · have hpe : p = off + j.toNat := by omega
        subst hpe
        rw [hl1] at hr'
        simp only [Option.some.injEq] at hr'
        subst hr'
        have hxy : x = x2 ∧ y = y2 := by
          simp only [Bool.not_eq_false', Bool.and_eq_true, beq_iff_eq] at hc
          exact hc
        obtain ⟨rfl, rfl⟩ := hxy
        exact hall (off + (j - 1).toNat) (by omega) _ hl2
theorem i_compact {l : List Rw} (hl : Pa l) (hn : l.length ≤ 100000000) : Tot (VV 63 [.row 2 l]) fun r => ∃ (n : Int) (m' : List Rw), r = [iR n, .own m'] ∧ 0 ≤ n ∧ n ≤ l.length ∧ m'.length = l.length ∧ Pa (m'.take n.toNat) ∧ ∀ r ∈ l, r ∈ m'.take n.toNat := by
  have self : ∃ (n : Int) (m' : List Rw), [iR (l.length : Int), RC.own l] = [iR n, .own m'] ∧ 0 ≤ n ∧ n ≤ l.length ∧ m'.length = l.length ∧ Pa (m'.take n.toNat) ∧ ∀ r ∈ l, r ∈ m'.take n.toNat :=
    ⟨_, _, rfl, by omega, by omega, rfl, by rwa [Int.toNat_natCast, List.take_length], by rw [Int.toNat_natCast, List.take_length]; exact fun _ h => h⟩
  rw [b63 hX, e63]
  refine Tot.cond (fun _ => .some self) fun h => ?_
  simp only [decide_eq_false_iff_not] at h
  suffices hh : ∀ (k : Nat) (i : Int), 1 ≤ i → i ≤ l.length → l.length - i ≤ k → Tot (VP 63 4 (s63_4 i l)) fun r => ∃ (n : Int) (m' : List Rw), r = [iR n, .own m'] ∧ 0 ≤ n ∧ n ≤ l.length ∧ m'.length = l.length ∧ Pa (m'.take n.toNat) ∧ ∀ r ∈ l, r ∈ m'.take n.toNat from hh l.length 1 (by omega) (by omega) (by omega)
  intro k
  induction k with
  | zero =>
    intro i h0 h1 hk
    rw [p63 hX, e63_4]
    refine Tot.cond (fun hx => ?_) fun hx => .some self
    simp only [decide_eq_true_eq] at hx; omega
  | succ k ih =>
    intro i h0 h1 hk
    rw [p63 hX, e63_4]
    refine Tot.cond (fun hx => ?_) fun hx => .some self
    simp only [decide_eq_true_eq] at hx
    rw [w64 (x := i - 1) (by omega) (by omega), w64 (x := i + 1) (by omega) (by omega)]
    refine Tot.chk (by omega) (Tot.get (by omega) fun r he hr => ?_)
    obtain ⟨x, y, rfl⟩ := hl r hr
    repeat (first | ((with_reducible refine Tot.rI (n := ?_) ?_ ?_); rotate_left; exact rfl) | ((with_reducible refine Tot.rB (n := ?_) ?_ ?_); rotate_left; exact rfl) | ((with_reducible refine Tot.rS (n := ?_) ?_ ?_); rotate_left; exact rfl) | ((with_reducible refine Tot.rM (n := ?_) ?_ ?_); rotate_left; exact rfl) | ((with_reducible refine Tot.rO (n := ?_) ?_ ?_); rotate_left; exact rfl) | ((with_reducible refine Tot.dI (n := ?_) ?_ ?_); rotate_left; exact rfl) | ((with_reducible refine Tot.dB (n := ?_) ?_ ?_); rotate_left; exact rfl) | ((with_reducible refine Tot.dS (n := ?_) ?_ ?_); rotate_left; exact rfl) | ((with_reducible refine Tot.dL (n := ?_) (f := ?_) ?_ ?_); rotate_left 2; exact rfl))
    refine Tot.chk (by omega) (Tot.get (by omega) fun r he2 hr2 => ?_)
    obtain ⟨x2, y2, rfl⟩ := hl r hr2
    repeat (first | ((with_reducible refine Tot.rI (n := ?_) ?_ ?_); rotate_left; exact rfl) | ((with_reducible refine Tot.rB (n := ?_) ?_ ?_); rotate_left; exact rfl) | ((with_reducible refine Tot.rS (n := ?_) ?_ ?_); rotate_left; exact rfl) | ((with_reducible refine Tot.rM (n := ?_) ?_ ?_); rotate_left; exact rfl) | ((with_reducible refine Tot.rO (n := ?_) ?_ ?_); rotate_left; exact rfl) | ((with_reducible refine Tot.dI (n := ?_) ?_ ?_); rotate_left; exact rfl) | ((with_reducible refine Tot.dB (n := ?_) ?_ ?_); rotate_left; exact rfl) | ((with_reducible refine Tot.dS (n := ?_) ?_ ?_); rotate_left; exact rfl) | ((with_reducible refine Tot.dL (n := ?_) (f := ?_) ?_ ?_); rotate_left 2; exact rfl))
    refine Tot.cond (fun hc => Tot.chk (by omega) ?_) fun _ => ih _ (by omega) (by omega) (by omega)
    simp only [Bool.and_eq_true, beq_iff_eq] at hc
    obtain ⟨rfl, rfl⟩ := hc
    have key := compact_9 hX hl hn i.toNat (by omega) (by omega) l.length i 1 l (by omega) (by omega) (by omega) rfl hl (by omega) (by omega) (fun _ _ => rfl) ?_
    · rw [show ((l.length : Int)).toNat - i.toNat = l.length - i.toNat by omega]
      exact key
    · intro p hp r' hr'
      by_cases hpi : p < i.toNat
      · rw [List.mem_take_iff_getElem]
        obtain ⟨hlt, e⟩ := List.getElem?_eq_some_iff.mp hr'
        exact ⟨p, by omega, e⟩
      · have hpe : p = i.toNat := by omega
        subst hpe
        rw [he] at hr'
        simp only [Option.some.injEq] at hr'
        subst hr'
        rw [List.mem_take_iff_getElem]
        obtain ⟨hlt, e⟩ := List.getElem?_eq_some_iff.mp he2
        exact ⟨(i - 1).toNat, by omega, e⟩
end
/-- What is asked of slices.SortFunc. -/
def SortOK : Prop := ∀ l : List Rw, Pa l → l.length ≤ 100000000 → Tot (VV 59 [.row 2 l, .fn 60 []]) fun r => ∃ m, r = [.own m] ∧ m.length = l.length ∧ ∀ x, x ∈ m ↔ x ∈ l
section
variable (hX : ExtFin tE) (hS : SortOK)
include hX hS
theorem i_join {l ts : List Rw} (hl : Fts l) (hn : l.length ≤ 100) (ht : Asc ts 441) (htn : ts.length ≤ 441) : Tot (VV 15 [.c (.s false l), .c (.s false ts)]) fun r => ∃ m, r = [.own m] ∧ Pa m ∧ m.length ≤ 100000000 ∧
    (VV 41 [.c (.s false l)] = some [bR true] → ∀ t x, [iD t] ∈ ts → Seen l x (10 * (t % 21)) (10 * (t / 21)) (minI (10 * (t % 21) + 10) 200) (minI (10 * (t / 21) + 10) 200) → ∃ y, [iD x, iD y] ∈ m) := by
  rw [b15 hX, e15]
  suffices hh : ∀ (k : Nat) (i : Int) (m : List Rw), 0 ≤ i → i ≤ ts.length → ts.length - i ≤ k → Pa m → (m.length : Int) ≤ 20000 * i →
      (VV 41 [.c (.s false l)] = some [bR true] → ∀ t x, [iD t] ∈ ts.take i.toNat → Seen l x (10 * (t % 21)) (10 * (t / 21)) (minI (10 * (t % 21) + 10) 200) (minI (10 * (t / 21) + 10) 200) → ∃ y, [iD x, iD y] ∈ m) →
      Tot (VP 15 3 (s15_3 l ts ts.length i m)) fun r => ∃ m, r = [.own m] ∧ Pa m ∧ m.length ≤ 100000000 ∧
        (VV 41 [.c (.s false l)] = some [bR true] → ∀ t x, [iD t] ∈ ts → Seen l x (10 * (t % 21)) (10 * (t / 21)) (minI (10 * (t % 21) + 10) 200) (minI (10 * (t / 21) + 10) 200) → ∃ y, [iD x, iD y] ∈ m) from
    hh ts.length 0 [] (by omega) (by omega) (by omega) Pa.nil (by simp) (fun _ _ _ h => by simp at h)
  intro k
  have fin : ∀ (m : List Rw), Pa m → (m.length : Int) ≤ 20000 * 441 →
      (VV 41 [.c (.s false l)] = some [bR true] → ∀ t x, [iD t] ∈ ts → Seen l x (10 * (t % 21)) (10 * (t / 21)) (minI (10 * (t % 21) + 10) 200) (minI (10 * (t / 21) + 10) 200) → ∃ y, [iD x, iD y] ∈ m) →
      Tot ((VV 59 [.row 2 m, .fn 60 []]).bind fun q5 => (rO q5[0]?).bind fun l6 => (VV 63 [.row 2 l6]).bind fun q7 => (rI .i64 q7[0]?).bind fun n8 => (rO q7[1]?).bind fun l9 => (chk (0 + n8.toNat ≤ l9.length)).bind fun _ => some [RC.own ((l9.drop 0).take n8.toNat)])
      fun r => ∃ m, r = [.own m] ∧ Pa m ∧ m.length ≤ 100000000 ∧
        (VV 41 [.c (.s false l)] = some [bR true] → ∀ t x, [iD t] ∈ ts → Seen l x (10 * (t % 21)) (10 * (t / 21)) (minI (10 * (t % 21) + 10) 200) (minI (10 * (t / 21) + 10) 200) → ∃ y, [iD x, iD y] ∈ m) := by
    intro m hm hml hmem
    refine Tot.bind (hS m hm (by omega)) ?_
    rintro _ ⟨m2, rfl, hm2l, hm2⟩
    repeat (first | ((with_reducible refine Tot.rI (n := ?_) ?_ ?_); rotate_left; exact rfl) | ((with_reducible refine Tot.rB (n := ?_) ?_ ?_); rotate_left; exact rfl) | ((with_reducible refine Tot.rS (n := ?_) ?_ ?_); rotate_left; exact rfl) | ((with_reducible refine Tot.rM (n := ?_) ?_ ?_); rotate_left; exact rfl) | ((with_reducible refine Tot.rO (n := ?_) ?_ ?_); rotate_left; exact rfl) | ((with_reducible refine Tot.dI (n := ?_) ?_ ?_); rotate_left; exact rfl) | ((with_reducible refine Tot.dB (n := ?_) ?_ ?_); rotate_left; exact rfl) | ((with_reducible refine Tot.dS (n := ?_) ?_ ?_); rotate_left; exact rfl) | ((with_reducible refine Tot.dL (n := ?_) (f := ?_) ?_ ?_); rotate_left 2; exact rfl))
    refine Tot.bind (i_compact hX (l := m2) (fun r hr => hm r ((hm2 r).mp hr)) (by omega)) ?_
    rintro _ ⟨n, m3, rfl, hn0, hn1, hm3l, hm3, hall⟩
    repeat (first | ((with_reducible refine Tot.rI (n := ?_) ?_ ?_); rotate_left; exact rfl) | ((with_reducible refine Tot.rB (n := ?_) ?_ ?_); rotate_left; exact rfl) | ((with_reducible refine Tot.rS (n := ?_) ?_ ?_); rotate_left; exact rfl) | ((with_reducible refine Tot.rM (n := ?_) ?_ ?_); rotate_left; exact rfl) | ((with_reducible refine Tot.rO (n := ?_) ?_ ?_); rotate_left; exact rfl) | ((with_reducible refine Tot.dI (n := ?_) ?_ ?_); rotate_left; exact rfl) | ((with_reducible refine Tot.dB (n := ?_) ?_ ?_); rotate_left; exact rfl) | ((with_reducible refine Tot.dS (n := ?_) ?_ ?_); rotate_left; exact rfl) | ((with_reducible refine Tot.dL (n := ?_) (f := ?_) ?_ ?_); rotate_left 2; exact rfl))
    refine Tot.chk (by omega) (.some ⟨_, rfl, ?_, ?_, ?_⟩)
    · rw [List.drop_zero]; exact hm3
    · rw [List.length_take, List.drop_zero]; omega
    · intro hs t x h1 h2
      obtain ⟨y, hy⟩ := hmem hs t x h1 h2
      exact ⟨y, by rw [List.drop_zero]; exact hall _ ((hm2 _).mpr hy)⟩
  induction k with
  | zero =>
    intro i m h0 h1 hk hm hml hmem
    rw [p15 hX, e15_3]
    refine Tot.cond (fun hx => ?_) fun hx => fin m hm (by omega) (by rwa [List.take_of_length_le (by omega)] at hmem)
    simp only [decide_eq_true_eq] at hx; omega
  | succ k ih =>
    intro i m h0 h1 hk hm hml hmem
    rw [p15 hX, e15_3]
    refine Tot.cond (fun hx => ?_) fun hx => fin m hm (by omega) (by rwa [List.take_of_length_le (by simp only [decide_eq_false_iff_not] at hx; omega)] at hmem)
    simp only [decide_eq_true_eq] at hx
    rw [w64 (x := i + 1) (by omega) (by omega)]
    refine Tot.getE h0 hx ht.one fun r he hr => ?_
    obtain ⟨t, rfl, ht0, ht1⟩ := ht.1 r hr
    repeat (first | ((with_reducible refine Tot.rI (n := ?_) ?_ ?_); rotate_left; exact rfl) | ((with_reducible refine Tot.rB (n := ?_) ?_ ?_); rotate_left; exact rfl) | ((with_reducible refine Tot.rS (n := ?_) ?_ ?_); rotate_left; exact rfl) | ((with_reducible refine Tot.rM (n := ?_) ?_ ?_); rotate_left; exact rfl) | ((with_reducible refine Tot.rO (n := ?_) ?_ ?_); rotate_left; exact rfl) | ((with_reducible refine Tot.dI (n := ?_) ?_ ?_); rotate_left; exact rfl) | ((with_reducible refine Tot.dB (n := ?_) ?_ ?_); rotate_left; exact rfl) | ((with_reducible refine Tot.dS (n := ?_) ?_ ?_); rotate_left; exact rfl) | ((with_reducible refine Tot.dL (n := ?_) (f := ?_) ?_ ?_); rotate_left 2; exact rfl))
    refine Tot.bind (i_piecesin hX hl hn ht0 ht1) ?_
    rintro _ ⟨m2, rfl, hm2, hm2l, hm2s⟩
    repeat (first | ((with_reducible refine Tot.rI (n := ?_) ?_ ?_); rotate_left; exact rfl) | ((with_reducible refine Tot.rB (n := ?_) ?_ ?_); rotate_left; exact rfl) | ((with_reducible refine Tot.rS (n := ?_) ?_ ?_); rotate_left; exact rfl) | ((with_reducible refine Tot.rM (n := ?_) ?_ ?_); rotate_left; exact rfl) | ((with_reducible refine Tot.rO (n := ?_) ?_ ?_); rotate_left; exact rfl) | ((with_reducible refine Tot.dI (n := ?_) ?_ ?_); rotate_left; exact rfl) | ((with_reducible refine Tot.dB (n := ?_) ?_ ?_); rotate_left; exact rfl) | ((with_reducible refine Tot.dS (n := ?_) ?_ ?_); rotate_left; exact rfl) | ((with_reducible refine Tot.dL (n := ?_) (f := ?_) ?_ ?_); rotate_left 2; exact rfl))
    refine Tot.chk (by omega) (ih _ _ (by omega) (by omega) (by omega) (hm.app hm2) (by rw [List.length_append]; omega) ?_)
    intro hs t' x h2 h3
    rw [show (i + 1).toNat = i.toNat + 1 by omega, List.take_add_one, he] at h2
    rcases List.mem_append.mp h2 with h2 | h2
    · obtain ⟨y, hy⟩ := hmem hs t' x h2 h3
      exact ⟨y, List.mem_append_left _ hy⟩
    · simp only [Option.toList_some, List.mem_singleton, List.cons.injEq, D.v.injEq, Value.int.injEq, true_and, and_true] at h2
      subst h2
      obtain ⟨y, hy⟩ := hm2s hs x h3
      exact ⟨y, List.mem_append_right _ hy⟩
end
end Go.Proofs.YtoiefmhmohhaeaaGreat.VE
/- FnWindows: the plain law. -/
set_option linter.unusedVariables false
set_option linter.unusedSimpArgs false
namespace Go.Proofs.YtoiefmhmohhaeaaGreat.VE

section
variable (hX : ExtFin tE) (hS : SortOK)
include hX
/-- The last part: every id that is seen is among the pieces; the tiles ascend. -/
theorem win_16 {ts ids js : List Rw} {wx wy s v : Int} (ht : Asc ts 441) (htn : ts.length ≤ 441) (hw : ((0 : Int) < ts.length) ↔ isWin wx wy s v = true) (hi : ids.length ≤ 1000) (hj : Pa js) (hjn : js.length ≤ 100000000) (hids : ∀ r ∈ ids, ∃ x y, r = [iD x] ∧ [iD x, iD y] ∈ js) :
    ∀ (k : Nat) (i : Int), 0 ≤ i → i ≤ ids.length → ids.length - i ≤ k → Tot (VP 3 16 (s3_16 ts i wx wy s v ids js)) fun r => r = [bR true] := by
  have fin : Tot ((VV 16 [.c (.s false ts)]).bind fun q1 => (rB q1[0]?).bind fun b2 => cond b2 ((VV 9 [.agg [iD wx, iD wy, iD s, iD v]]).bind fun q3 => (rB q3[0]?).bind fun b4 => some [bR ((decide ((ts.length : Int) > 0)) == b4)]) (some [bR false])) fun r => r = [bR true] := by
    refine Tot.bind (i_ascends hX ht (by omega)) ?_
    rintro _ rfl
    repeat (first | ((with_reducible refine Tot.rI (n := ?_) ?_ ?_); rotate_left; exact rfl) | ((with_reducible refine Tot.rB (n := ?_) ?_ ?_); rotate_left; exact rfl) | ((with_reducible refine Tot.rS (n := ?_) ?_ ?_); rotate_left; exact rfl) | ((with_reducible refine Tot.rM (n := ?_) ?_ ?_); rotate_left; exact rfl) | ((with_reducible refine Tot.rO (n := ?_) ?_ ?_); rotate_left; exact rfl) | ((with_reducible refine Tot.dI (n := ?_) ?_ ?_); rotate_left; exact rfl) | ((with_reducible refine Tot.dB (n := ?_) ?_ ?_); rotate_left; exact rfl) | ((with_reducible refine Tot.dS (n := ?_) ?_ ?_); rotate_left; exact rfl) | ((with_reducible refine Tot.dL (n := ?_) (f := ?_) ?_ ?_); rotate_left 2; exact rfl))
    refine Tot.cond (fun _ => ?_) fun h => by cases h
    refine Tot.bind (i_win hX) ?_
    rintro _ ⟨b, rfl, hb⟩
    repeat (first | ((with_reducible refine Tot.rI (n := ?_) ?_ ?_); rotate_left; exact rfl) | ((with_reducible refine Tot.rB (n := ?_) ?_ ?_); rotate_left; exact rfl) | ((with_reducible refine Tot.rS (n := ?_) ?_ ?_); rotate_left; exact rfl) | ((with_reducible refine Tot.rM (n := ?_) ?_ ?_); rotate_left; exact rfl) | ((with_reducible refine Tot.rO (n := ?_) ?_ ?_); rotate_left; exact rfl) | ((with_reducible refine Tot.dI (n := ?_) ?_ ?_); rotate_left; exact rfl) | ((with_reducible refine Tot.dB (n := ?_) ?_ ?_); rotate_left; exact rfl) | ((with_reducible refine Tot.dS (n := ?_) ?_ ?_); rotate_left; exact rfl) | ((with_reducible refine Tot.dL (n := ?_) (f := ?_) ?_ ?_); rotate_left 2; exact rfl))
    have e : decide ((ts.length : Int) > 0) = b := bool_iff (by rw [decide_eq_true_iff, hb]; exact hw)
    exact .some (by rw [e]; simp)
  intro k
  induction k with
  | zero =>
    intro i h0 h1 hk
    rw [p3 hX, e3_16]
    refine Tot.cond (fun hx => ?_) fun hx => fin
    simp only [decide_eq_true_eq] at hx; omega
  | succ k ih =>
    intro i h0 h1 hk
    have inner : i < ids.length → ∀ x y, ids[i.toNat]? = some [iD x] → [iD x, iD y] ∈ js → ∀ (k : Nat) (b : Bool) (j : Int), 0 ≤ j → j ≤ js.length → js.length - j ≤ k → (b = false → [iD x, iD y] ∈ js.drop j.toNat) →
        Tot (VP 3 20 (s3_20 ts i b j wx wy s v ids js)) fun r => r = [bR true] := by
      intro hi2 x y hxe hxy k2
      induction k2 with
      | zero =>
        intro b j j0 j1 jk hb
        rw [p3 hX, e3_20, w64 (x := i + 1) (by omega) (by omega)]
        refine Tot.cond (fun hx => ?_) fun hx => Tot.cond (fun hbf => ?_) fun _ => ih _ (by omega) (by omega) (by omega)
        · simp only [decide_eq_true_eq] at hx; omega
        · have hb := hb (by cases b <;> simp_all)
          rw [List.drop_of_length_le (by omega)] at hb
          cases hb
      | succ k2 ih2 =>
        intro b j j0 j1 jk hb
        rw [p3 hX, e3_20, w64 (x := i + 1) (by omega) (by omega)]
        refine Tot.cond (fun hx => ?_) fun hx => Tot.cond (fun hbf => ?_) fun _ => ih _ (by omega) (by omega) (by omega)
        · simp only [decide_eq_true_eq] at hx
          rw [w64 (x := j + 1) (by omega) (by omega)]
          refine Tot.cond (fun hbt => ih2 _ _ (by omega) (by omega) (by omega) (by intro h; cases h)) fun hbf => ?_
          have hb := hb hbf
          refine Tot.chk (by omega) (Tot.get (by omega) fun r he hr => ?_)
          obtain ⟨a, b', rfl⟩ := hj r hr
          repeat (first | ((with_reducible refine Tot.rI (n := ?_) ?_ ?_); rotate_left; exact rfl) | ((with_reducible refine Tot.rB (n := ?_) ?_ ?_); rotate_left; exact rfl) | ((with_reducible refine Tot.rS (n := ?_) ?_ ?_); rotate_left; exact rfl) | ((with_reducible refine Tot.rM (n := ?_) ?_ ?_); rotate_left; exact rfl) | ((with_reducible refine Tot.rO (n := ?_) ?_ ?_); rotate_left; exact rfl) | ((with_reducible refine Tot.dI (n := ?_) ?_ ?_); rotate_left; exact rfl) | ((with_reducible refine Tot.dB (n := ?_) ?_ ?_); rotate_left; exact rfl) | ((with_reducible refine Tot.dS (n := ?_) ?_ ?_); rotate_left; exact rfl) | ((with_reducible refine Tot.dL (n := ?_) (f := ?_) ?_ ?_); rotate_left 2; exact rfl))
          refine Tot.chk (by omega) ?_
          refine Tot.eq hxe ?_
          repeat (first | ((with_reducible refine Tot.rI (n := ?_) ?_ ?_); rotate_left; exact rfl) | ((with_reducible refine Tot.rB (n := ?_) ?_ ?_); rotate_left; exact rfl) | ((with_reducible refine Tot.rS (n := ?_) ?_ ?_); rotate_left; exact rfl) | ((with_reducible refine Tot.rM (n := ?_) ?_ ?_); rotate_left; exact rfl) | ((with_reducible refine Tot.rO (n := ?_) ?_ ?_); rotate_left; exact rfl) | ((with_reducible refine Tot.dI (n := ?_) ?_ ?_); rotate_left; exact rfl) | ((with_reducible refine Tot.dB (n := ?_) ?_ ?_); rotate_left; exact rfl) | ((with_reducible refine Tot.dS (n := ?_) ?_ ?_); rotate_left; exact rfl) | ((with_reducible refine Tot.dL (n := ?_) (f := ?_) ?_ ?_); rotate_left 2; exact rfl))
          refine ih2 _ _ (by omega) (by omega) (by omega) fun hne => ?_
          have hlt : j.toNat < js.length := by omega
          rw [List.drop_eq_getElem_cons hlt] at hb
          rw [List.getElem?_eq_getElem hlt] at he
          rw [Option.some.inj he] at hb
          rw [show (j + 1).toNat = j.toNat + 1 by omega]
          rcases List.mem_cons.mp hb with hb | hb
          · simp only [List.cons.injEq, D.v.injEq, Value.int.injEq, true_and, and_true] at hb
            simp only [beq_eq_false_iff_ne, ne_eq] at hne
            exact absurd hb.1.symm hne
          · exact hb
        · simp only [decide_eq_false_iff_not] at hx
          have hb := hb (by cases b <;> simp_all)
          rw [List.drop_of_length_le (by omega)] at hb
          cases hb
    rw [p3 hX, e3_16]
    refine Tot.cond (fun hx => ?_) fun hx => fin
    simp only [decide_eq_true_eq] at hx
    have hlt : i.toNat < ids.length := by omega
    obtain ⟨x, y, e, hxy⟩ := hids _ (List.getElem_mem hlt)
    exact inner hx x y (by rw [List.getElem?_eq_getElem hlt, e]) hxy js.length false 0 (by omega) (by omega) (by omega) fun _ => hxy
include hS
theorem win_11 {bs : List Rw} (hb : Code8 bs) : Tot (VP 3 11 (s3_11 bs)) fun r => r = [bR true] := by
  rw [p3 hX, e3_11]
  refine Tot.bind (t_DrawSeenIds hX hb) ?_
  rintro _ ⟨l, wx, wy, s, v, rfl, hl, hll⟩
  repeat (first | ((with_reducible refine Tot.rI (n := ?_) ?_ ?_); rotate_left; exact rfl) | ((with_reducible refine Tot.rB (n := ?_) ?_ ?_); rotate_left; exact rfl) | ((with_reducible refine Tot.rS (n := ?_) ?_ ?_); rotate_left; exact rfl) | ((with_reducible refine Tot.rM (n := ?_) ?_ ?_); rotate_left; exact rfl) | ((with_reducible refine Tot.rO (n := ?_) ?_ ?_); rotate_left; exact rfl) | ((with_reducible refine Tot.dI (n := ?_) ?_ ?_); rotate_left; exact rfl) | ((with_reducible refine Tot.dB (n := ?_) ?_ ?_); rotate_left; exact rfl) | ((with_reducible refine Tot.dS (n := ?_) ?_ ?_); rotate_left; exact rfl) | ((with_reducible refine Tot.dL (n := ?_) (f := ?_) ?_ ?_); rotate_left 2; exact rfl))
  obtain ⟨ho, hol⟩ := hl.old
  generalize oldL l = l' at ho hol ⊢
  refine Tot.bind (i_seen hX (wx := wx) (wy := wy) (s := s) (v := v) ho (by omega)) ?_
  rintro _ ⟨ids, rfl, hidl, hids⟩
  repeat (first | ((with_reducible refine Tot.rI (n := ?_) ?_ ?_); rotate_left; exact rfl) | ((with_reducible refine Tot.rB (n := ?_) ?_ ?_); rotate_left; exact rfl) | ((with_reducible refine Tot.rS (n := ?_) ?_ ?_); rotate_left; exact rfl) | ((with_reducible refine Tot.rM (n := ?_) ?_ ?_); rotate_left; exact rfl) | ((with_reducible refine Tot.rO (n := ?_) ?_ ?_); rotate_left; exact rfl) | ((with_reducible refine Tot.dI (n := ?_) ?_ ?_); rotate_left; exact rfl) | ((with_reducible refine Tot.dB (n := ?_) ?_ ?_); rotate_left; exact rfl) | ((with_reducible refine Tot.dS (n := ?_) ?_ ?_); rotate_left; exact rfl) | ((with_reducible refine Tot.dL (n := ?_) (f := ?_) ?_ ?_); rotate_left 2; exact rfl))
  refine Tot.bind (i_tilesfor hX (wx := wx) (wy := wy) (s := s) (v := v)) ?_
  rintro _ ⟨ts, rfl, ht, htl, hte, htm⟩
  repeat (first | ((with_reducible refine Tot.rI (n := ?_) ?_ ?_); rotate_left; exact rfl) | ((with_reducible refine Tot.rB (n := ?_) ?_ ?_); rotate_left; exact rfl) | ((with_reducible refine Tot.rS (n := ?_) ?_ ?_); rotate_left; exact rfl) | ((with_reducible refine Tot.rM (n := ?_) ?_ ?_); rotate_left; exact rfl) | ((with_reducible refine Tot.rO (n := ?_) ?_ ?_); rotate_left; exact rfl) | ((with_reducible refine Tot.dI (n := ?_) ?_ ?_); rotate_left; exact rfl) | ((with_reducible refine Tot.dB (n := ?_) ?_ ?_); rotate_left; exact rfl) | ((with_reducible refine Tot.dS (n := ?_) ?_ ?_); rotate_left; exact rfl) | ((with_reducible refine Tot.dL (n := ?_) (f := ?_) ?_ ?_); rotate_left 2; exact rfl))
  rw [Asc.old (n := 441) fun r hr => by obtain ⟨x, e, _⟩ := ht.1 r hr; exact ⟨x, e⟩]
  refine Tot.bind (i_join hX hS ho (by omega) ht htl) ?_
  rintro _ ⟨js, rfl, hj, hjl, hjs⟩
  repeat (first | ((with_reducible refine Tot.rI (n := ?_) ?_ ?_); rotate_left; exact rfl) | ((with_reducible refine Tot.rB (n := ?_) ?_ ?_); rotate_left; exact rfl) | ((with_reducible refine Tot.rS (n := ?_) ?_ ?_); rotate_left; exact rfl) | ((with_reducible refine Tot.rM (n := ?_) ?_ ?_); rotate_left; exact rfl) | ((with_reducible refine Tot.rO (n := ?_) ?_ ?_); rotate_left; exact rfl) | ((with_reducible refine Tot.dI (n := ?_) ?_ ?_); rotate_left; exact rfl) | ((with_reducible refine Tot.dB (n := ?_) ?_ ?_); rotate_left; exact rfl) | ((with_reducible refine Tot.dS (n := ?_) ?_ ?_); rotate_left; exact rfl) | ((with_reducible refine Tot.dL (n := ?_) (f := ?_) ?_ ?_); rotate_left 2; exact rfl))
  refine win_16 hX ht htl ?_ (by omega) hj hjl ?_ ids.length 0 (by omega) (by omega) (by omega)
  · constructor
    · intro h
      cases hw : isWin wx wy s v with
      | true => rfl
      | false => rw [hte hw] at h; simp at h
    · intro hw
      obtain ⟨i, j, i0, i1, j0, j1, hti⟩ := win_tile hw
      have := List.length_pos_of_mem (htm i j hw i0 i1 j0 j1 hti)
      omega
  · intro r hr
    obtain ⟨x, e, hw, hso, hok, hsn⟩ := hids r hr
    obtain ⟨i, j, i0, i1, j0, j1, hti, hst⟩ := hsn.tile hw
    have e1 : (21 * j + i) % 21 = i := by omega
    have e2 : (21 * j + i) / 21 = j := by omega
    obtain ⟨y, hy⟩ := hjs hso (21 * j + i) x (htm i j hw i0 i1 j0 j1 hti) (by rw [e1, e2]; exact hst)
    exact ⟨x, y, e, hy⟩
theorem win_7 {bs : List Rw} (hb : Code8 bs) : Tot (VP 3 7 (s3_7 bs)) fun r => r = [bR true] := by
  have h11 := win_11 hX hS hb
  rw [p3 hX, e3_7]
  refine Tot.bind (t_DrawZoom hX hb) ?_
  rintro _ ⟨x, y, s, v, z, rfl⟩
  repeat (first | ((with_reducible refine Tot.rI (n := ?_) ?_ ?_); rotate_left; exact rfl) | ((with_reducible refine Tot.rB (n := ?_) ?_ ?_); rotate_left; exact rfl) | ((with_reducible refine Tot.rS (n := ?_) ?_ ?_); rotate_left; exact rfl) | ((with_reducible refine Tot.rM (n := ?_) ?_ ?_); rotate_left; exact rfl) | ((with_reducible refine Tot.rO (n := ?_) ?_ ?_); rotate_left; exact rfl) | ((with_reducible refine Tot.dI (n := ?_) ?_ ?_); rotate_left; exact rfl) | ((with_reducible refine Tot.dB (n := ?_) ?_ ?_); rotate_left; exact rfl) | ((with_reducible refine Tot.dS (n := ?_) ?_ ?_); rotate_left; exact rfl) | ((with_reducible refine Tot.dL (n := ?_) (f := ?_) ?_ ?_); rotate_left 2; exact rfl))
  refine Tot.bind (i_zoom hX (a := x) (b := y) (s := s) (v := v) (z := z)) ?_
  rintro _ ⟨x', y', s', v', rfl, hw, hz1, hz2⟩
  repeat (first | ((with_reducible refine Tot.rI (n := ?_) ?_ ?_); rotate_left; exact rfl) | ((with_reducible refine Tot.rB (n := ?_) ?_ ?_); rotate_left; exact rfl) | ((with_reducible refine Tot.rS (n := ?_) ?_ ?_); rotate_left; exact rfl) | ((with_reducible refine Tot.rM (n := ?_) ?_ ?_); rotate_left; exact rfl) | ((with_reducible refine Tot.rO (n := ?_) ?_ ?_); rotate_left; exact rfl) | ((with_reducible refine Tot.dI (n := ?_) ?_ ?_); rotate_left; exact rfl) | ((with_reducible refine Tot.dB (n := ?_) ?_ ?_); rotate_left; exact rfl) | ((with_reducible refine Tot.dS (n := ?_) ?_ ?_); rotate_left; exact rfl) | ((with_reducible refine Tot.dL (n := ?_) (f := ?_) ?_ ?_); rotate_left 2; exact rfl))
  refine Tot.bind (i_win hX) ?_
  rintro _ ⟨b1, rfl, hb1⟩
  repeat (first | ((with_reducible refine Tot.rI (n := ?_) ?_ ?_); rotate_left; exact rfl) | ((with_reducible refine Tot.rB (n := ?_) ?_ ?_); rotate_left; exact rfl) | ((with_reducible refine Tot.rS (n := ?_) ?_ ?_); rotate_left; exact rfl) | ((with_reducible refine Tot.rM (n := ?_) ?_ ?_); rotate_left; exact rfl) | ((with_reducible refine Tot.rO (n := ?_) ?_ ?_); rotate_left; exact rfl) | ((with_reducible refine Tot.dI (n := ?_) ?_ ?_); rotate_left; exact rfl) | ((with_reducible refine Tot.dB (n := ?_) ?_ ?_); rotate_left; exact rfl) | ((with_reducible refine Tot.dS (n := ?_) ?_ ?_); rotate_left; exact rfl) | ((with_reducible refine Tot.dL (n := ?_) (f := ?_) ?_ ?_); rotate_left 2; exact rfl))
  refine Tot.bind (i_win hX) ?_
  rintro _ ⟨b2, rfl, hb2⟩
  repeat (first | ((with_reducible refine Tot.rI (n := ?_) ?_ ?_); rotate_left; exact rfl) | ((with_reducible refine Tot.rB (n := ?_) ?_ ?_); rotate_left; exact rfl) | ((with_reducible refine Tot.rS (n := ?_) ?_ ?_); rotate_left; exact rfl) | ((with_reducible refine Tot.rM (n := ?_) ?_ ?_); rotate_left; exact rfl) | ((with_reducible refine Tot.rO (n := ?_) ?_ ?_); rotate_left; exact rfl) | ((with_reducible refine Tot.dI (n := ?_) ?_ ?_); rotate_left; exact rfl) | ((with_reducible refine Tot.dB (n := ?_) ?_ ?_); rotate_left; exact rfl) | ((with_reducible refine Tot.dS (n := ?_) ?_ ?_); rotate_left; exact rfl) | ((with_reducible refine Tot.dL (n := ?_) (f := ?_) ?_ ?_); rotate_left 2; exact rfl))
  have e : b1 = b2 := bool_iff (by rw [hb1, hb2, hw])
  subst e
  refine Tot.cond (fun h => ?_) fun _ => ?_
  · simp at h
  · cases z with
    | true =>
      have := hz1 rfl
      refine Tot.cond (fun _ => Tot.cond (fun hc => ?_) fun _ => ?_) fun h => by cases h
      · simp only [decide_eq_true_eq] at hc; omega
      · exact Tot.cond (fun h => by cases h) fun _ => h11
    | false =>
      have := hz2 rfl
      refine Tot.cond (fun h => by cases h) fun _ => Tot.cond (fun _ => Tot.cond (fun hc => ?_) fun _ => h11) fun h => by cases h
      simp only [decide_eq_true_eq] at hc; omega
theorem win_small {bs : List Rw} (hb : Code8 bs) : Tot (VV 3 [.c (.s false bs)]) fun r => r = [bR true] := by
  rw [b3 hX, e3]
  have hbig : Tot (VV 6 [.c (.s false bs)]) fun r => r = [bR false] := by
    rw [b6 hX, e6]
    have := hb.1
    exact .some (by rw [decide_eq_false (by omega)])
  refine Tot.bind (hbig) ?_
  rintro _ rfl
  repeat (first | ((with_reducible refine Tot.rI (n := ?_) ?_ ?_); rotate_left; exact rfl) | ((with_reducible refine Tot.rB (n := ?_) ?_ ?_); rotate_left; exact rfl) | ((with_reducible refine Tot.rS (n := ?_) ?_ ?_); rotate_left; exact rfl) | ((with_reducible refine Tot.rM (n := ?_) ?_ ?_); rotate_left; exact rfl) | ((with_reducible refine Tot.rO (n := ?_) ?_ ?_); rotate_left; exact rfl) | ((with_reducible refine Tot.dI (n := ?_) ?_ ?_); rotate_left; exact rfl) | ((with_reducible refine Tot.dB (n := ?_) ?_ ?_); rotate_left; exact rfl) | ((with_reducible refine Tot.dS (n := ?_) ?_ ?_); rotate_left; exact rfl) | ((with_reducible refine Tot.dL (n := ?_) (f := ?_) ?_ ?_); rotate_left 2; exact rfl))
  refine Tot.cond (fun h => by cases h) fun _ => ?_
  refine Tot.bind (t_DrawPan hX hb) ?_
  rintro _ ⟨x, y, s, v, dx, dy, rfl, -⟩
  repeat (first | ((with_reducible refine Tot.rI (n := ?_) ?_ ?_); rotate_left; exact rfl) | ((with_reducible refine Tot.rB (n := ?_) ?_ ?_); rotate_left; exact rfl) | ((with_reducible refine Tot.rS (n := ?_) ?_ ?_); rotate_left; exact rfl) | ((with_reducible refine Tot.rM (n := ?_) ?_ ?_); rotate_left; exact rfl) | ((with_reducible refine Tot.rO (n := ?_) ?_ ?_); rotate_left; exact rfl) | ((with_reducible refine Tot.dI (n := ?_) ?_ ?_); rotate_left; exact rfl) | ((with_reducible refine Tot.dB (n := ?_) ?_ ?_); rotate_left; exact rfl) | ((with_reducible refine Tot.dS (n := ?_) ?_ ?_); rotate_left; exact rfl) | ((with_reducible refine Tot.dL (n := ?_) (f := ?_) ?_ ?_); rotate_left 2; exact rfl))
  refine Tot.bind (i_pan hX (a := x) (b := y) (s := s) (v := v) (dx := dx) (dy := dy)) ?_
  rintro _ ⟨x', y', rfl, hw⟩
  repeat (first | ((with_reducible refine Tot.rI (n := ?_) ?_ ?_); rotate_left; exact rfl) | ((with_reducible refine Tot.rB (n := ?_) ?_ ?_); rotate_left; exact rfl) | ((with_reducible refine Tot.rS (n := ?_) ?_ ?_); rotate_left; exact rfl) | ((with_reducible refine Tot.rM (n := ?_) ?_ ?_); rotate_left; exact rfl) | ((with_reducible refine Tot.rO (n := ?_) ?_ ?_); rotate_left; exact rfl) | ((with_reducible refine Tot.dI (n := ?_) ?_ ?_); rotate_left; exact rfl) | ((with_reducible refine Tot.dB (n := ?_) ?_ ?_); rotate_left; exact rfl) | ((with_reducible refine Tot.dS (n := ?_) ?_ ?_); rotate_left; exact rfl) | ((with_reducible refine Tot.dL (n := ?_) (f := ?_) ?_ ?_); rotate_left 2; exact rfl))
  refine Tot.bind (i_win hX) ?_
  rintro _ ⟨b1, rfl, hb1⟩
  repeat (first | ((with_reducible refine Tot.rI (n := ?_) ?_ ?_); rotate_left; exact rfl) | ((with_reducible refine Tot.rB (n := ?_) ?_ ?_); rotate_left; exact rfl) | ((with_reducible refine Tot.rS (n := ?_) ?_ ?_); rotate_left; exact rfl) | ((with_reducible refine Tot.rM (n := ?_) ?_ ?_); rotate_left; exact rfl) | ((with_reducible refine Tot.rO (n := ?_) ?_ ?_); rotate_left; exact rfl) | ((with_reducible refine Tot.dI (n := ?_) ?_ ?_); rotate_left; exact rfl) | ((with_reducible refine Tot.dB (n := ?_) ?_ ?_); rotate_left; exact rfl) | ((with_reducible refine Tot.dS (n := ?_) ?_ ?_); rotate_left; exact rfl) | ((with_reducible refine Tot.dL (n := ?_) (f := ?_) ?_ ?_); rotate_left 2; exact rfl))
  refine Tot.bind (i_win hX) ?_
  rintro _ ⟨b2, rfl, hb2⟩
  repeat (first | ((with_reducible refine Tot.rI (n := ?_) ?_ ?_); rotate_left; exact rfl) | ((with_reducible refine Tot.rB (n := ?_) ?_ ?_); rotate_left; exact rfl) | ((with_reducible refine Tot.rS (n := ?_) ?_ ?_); rotate_left; exact rfl) | ((with_reducible refine Tot.rM (n := ?_) ?_ ?_); rotate_left; exact rfl) | ((with_reducible refine Tot.rO (n := ?_) ?_ ?_); rotate_left; exact rfl) | ((with_reducible refine Tot.dI (n := ?_) ?_ ?_); rotate_left; exact rfl) | ((with_reducible refine Tot.dB (n := ?_) ?_ ?_); rotate_left; exact rfl) | ((with_reducible refine Tot.dS (n := ?_) ?_ ?_); rotate_left; exact rfl) | ((with_reducible refine Tot.dL (n := ?_) (f := ?_) ?_ ?_); rotate_left 2; exact rfl))
  have e : b1 = b2 := bool_iff (by rw [hb1, hb2, hw])
  subst e
  refine Tot.cond (fun h => ?_) fun _ => Tot.cond (fun h => ?_) fun _ => win_7 hX hS hb
  · simp at h
  · simp at h
end
theorem win_all (hX : ExtFin tE) (hS : SortOK) (zs : List Int) (hz : ∀ n ∈ zs, 0 ≤ n ∧ n ≤ 255) : VV 3 [.c (.s false (zs.map fun n => [.v (.int .u8 n)]))] = some [.v (.bool true)] := by
  by_cases h : zs.length ≤ 1048576
  · obtain ⟨r, e, rfl⟩ := win_small hX hS (bs := zs.map fun n => [.v (.int .u8 n)]) ⟨by rw [List.length_map]; exact h, fun r hr => by
      obtain ⟨n, hn, rfl⟩ := List.mem_map.mp hr
      exact ⟨n, rfl, (hz n hn).1, (hz n hn).2⟩⟩
    exact e
  · rw [b3 hX, e3]
    have hbig : VV 6 [.c (.s false (zs.map fun n => [.v (.int .u8 n)]))] = some [bR true] := by
      rw [b6 hX, e6, List.length_map, decide_eq_true (by omega)]
    rw [hbig]
    rfl
end Go.Proofs.YtoiefmhmohhaeaaGreat.VE
/- The sort at this program; what it comes to. -/
set_option linter.unusedVariables false
set_option linter.unusedSimpArgs false
namespace Go.Proofs.YtoiefmhmohhaeaaGreat.VE
/-- slices.SortFunc's family at this program (the plain text of the kit's laying). -/
def sortPieces_ren : Go.Shelf.Ren := ⟨fun | 6 => 59 | 15 => 105 | 14 => 104 | 28 => 150 | 29 => 151 | 20 => 142 | 21 => 143 | 22 => 144 | 23 => 145 | 24 => 146 | 25 => 147 | 26 => 148 | 27 => 149 | 46 => 178 | 47 => 179 | 48 => 180 | 49 => 181 | 50 => 182 | 57 => 202 | n => n, fun | 22 => 41 | 24 => 44 | 25 => 117 | 3 => 3 | 39 => 172 | 0 => 0 | 53 => 206 | 55 => 208 | 4 => 4 | 46 => 199 | 45 => 198 | 50 => 203 | 5 => 5 | 9 => 9 | 66 => 217 | 70 => 221 | 76 => 230 | 77 => 167 | n => n, fun | n => n⟩
theorem sortPieces : Go.Proofs.SlLaysF0.n6 Tryz.prog sortPieces_ren := {
  mixed := by kernel_rfl,
  f6 := ⟨Tryz.f59.name, by decide, Tryz.func59.trans (congrArg some (by kernel_rfl))⟩,
  f14 := ⟨Tryz.f104.name, by decide, Tryz.func104.trans (congrArg some (by kernel_rfl))⟩,
  f15 := Tryz.func105.trans (congrArg some (by kernel_rfl)),
  f20 := ⟨Tryz.f142.name, by decide, Tryz.func142.trans (congrArg some (by kernel_rfl))⟩,
  f21 := ⟨Tryz.f143.name, by decide, Tryz.func143.trans (congrArg some (by kernel_rfl))⟩,
  f22 := ⟨Tryz.f144.name, by decide, Tryz.func144.trans (congrArg some (by kernel_rfl))⟩,
  f23 := ⟨Tryz.f145.name, by decide, Tryz.func145.trans (congrArg some (by kernel_rfl))⟩,
  f24 := ⟨Tryz.f146.name, by decide, Tryz.func146.trans (congrArg some (by kernel_rfl))⟩,
  f25 := ⟨Tryz.f147.name, by decide, Tryz.func147.trans (congrArg some (by kernel_rfl))⟩,
  f26 := ⟨Tryz.f148.name, by decide, Tryz.func148.trans (congrArg some (by kernel_rfl))⟩,
  f27 := ⟨Tryz.f149.name, by decide, Tryz.func149.trans (congrArg some (by kernel_rfl))⟩,
  f28 := Tryz.func150.trans (congrArg some (by kernel_rfl)),
  f29 := Tryz.func151.trans (congrArg some (by kernel_rfl)),
  f46 := ⟨Tryz.f178.name, by decide, Tryz.func178.trans (congrArg some (by kernel_rfl))⟩,
  f47 := Tryz.func179.trans (congrArg some (by kernel_rfl)),
  f48 := Tryz.func180.trans (congrArg some (by kernel_rfl)),
  f49 := ⟨Tryz.f181.name, by decide, Tryz.func181.trans (congrArg some (by kernel_rfl))⟩,
  f50 := ⟨Tryz.f182.name, by decide, Tryz.func182.trans (congrArg some (by kernel_rfl))⟩,
  f57 := ⟨Tryz.f202.name, by decide, Tryz.func202.trans (congrArg some (by kernel_rfl))⟩,
  t0 := Tryz.underlying0,
  a0 := Tryz.isAgg0,
  z0 := Tryz.sizeOf0,
  v0 := Tryz.zeroValue0,
  t3 := Tryz.underlying3,
  a3 := Tryz.isAgg3,
  z3 := Tryz.sizeOf3,
  v3 := Tryz.zeroValue3,
  t4 := Tryz.underlying4,
  a4 := Tryz.isAgg4,
  z4 := Tryz.sizeOf4,
  v4 := Tryz.zeroValue4,
  t5 := Tryz.underlying5,
  a5 := Tryz.isAgg5,
  z5 := Tryz.sizeOf5,
  v5 := Tryz.zeroValue5,
  t9 := Tryz.underlying9,
  a9 := Tryz.isAgg9,
  z9 := Tryz.sizeOf9,
  v9 := Tryz.zeroValue9,
  t22 := Tryz.underlying41,
  a22 := Tryz.isAgg41,
  z22 := Tryz.sizeOf41,
  v22 := Tryz.zeroValue41,
  t25 := Tryz.underlying117,
  a25 := Tryz.isAgg117,
  z25 := Tryz.sizeOf117,
  v25 := Tryz.zeroValue117,
  t39 := Tryz.underlying172,
  a39 := Tryz.isAgg172,
  z39 := Tryz.sizeOf172,
  v39 := Tryz.zeroValue172,
  t45 := Tryz.underlying198,
  a45 := Tryz.isAgg198,
  z45 := Tryz.sizeOf198,
  v45 := Tryz.zeroValue198,
  t46 := Tryz.underlying199,
  a46 := Tryz.isAgg199,
  z46 := Tryz.sizeOf199,
  v46 := Tryz.zeroValue199,
  t50 := Tryz.underlying203,
  a50 := Tryz.isAgg203,
  z50 := Tryz.sizeOf203,
  v50 := Tryz.zeroValue203,
  t53 := Tryz.underlying206,
  a53 := Tryz.isAgg206,
  z53 := Tryz.sizeOf206,
  v53 := Tryz.zeroValue206,
  t55 := Tryz.underlying208,
  a55 := Tryz.isAgg208,
  z55 := Tryz.sizeOf208,
  v55 := Tryz.zeroValue208,
  t66 := Tryz.underlying217,
  a66 := Tryz.isAgg217,
  z66 := Tryz.sizeOf217,
  v66 := Tryz.zeroValue217,
  t70 := Tryz.underlying221,
  a70 := Tryz.isAgg221,
  z70 := Tryz.sizeOf221,
  v70 := Tryz.zeroValue221,
  t76 := Tryz.underlying230,
  a76 := Tryz.isAgg230,
  z76 := Tryz.sizeOf230,
  v76 := Tryz.zeroValue230,
  t77 := Tryz.underlying167,
  a77 := Tryz.isAgg167,
  z77 := Tryz.sizeOf167,
  v77 := Tryz.zeroValue167 }
theorem ext_one {g : Nat} {e : Fns → List AV → Option (List RC)} (h : tX g = some e) : g = 59 ∧ e = sortX 2 (fun g => Nat.beq g 60) := by
  unfold tX at h
  cases hg : Nat.beq g 59 with
  | true =>
    rw [hg] at h
    simp only [cond_true, Option.some.injEq] at h
    exact ⟨Nat.eq_of_beq_eq_true hg, h.symm⟩
  | false => rw [hg] at h; cases h
theorem ext_fin : ExtFin tE := by
  intro g e he xs
  obtain ⟨_, rfl⟩ := ext_one he
  exact sortX_fin _ _ xs
theorem cmp_enters : ∀ args w, (callFunc 60 args).run Tryz.prog w = .ok (.enter 60 args) w := enters_of Tryz.func60 (by kernel_rfl) rfl
set_option maxRecDepth 100000 in
theorem prog_all : ProgOK Tryz.prog tE := by
  refine prog_ok mixed_ok tt_ok tg_ok (fun g hg h => ?_) fun g e sg he hs F hF => ?_
  · rw [List.mem_singleton] at hg
    subst hg
    cases h
  · obtain ⟨rfl, rfl⟩ := ext_one he
    have hs' : tGt.opt 59 = some ⟨[.row 2, .val], []⟩ := rfl
    rw [hs'] at hs
    simp only [Option.some.injEq] at hs
    subst hs
    exact sortX_ok (ρ := sortPieces_ren) (G := tGt.opt) (sz := 2) (ok := fun g => Nat.beq g 60) sortPieces Tryz.isAgg44 Tryz.sizeOf44 (fun g hg => by
      have hg := Nat.eq_of_beq_eq_true hg
      subst hg
      exact ⟨cmp_enters, rfl⟩) F hF

def cmpI (a b : Int) : Int := if a < b then -1 else if a > b then 1 else 0
def cmpP (a b c d : Int) : Int := if cmpI a c ≠ 0 then cmpI a c else if cmpI b d ≠ 0 then cmpI b d else 0
def cmpR : Rw → Rw → Int
  | [.v (.int .i64 a), .v (.int .i64 b)], [.v (.int .i64 c), .v (.int .i64 d)] => cmpP a b c d
  | _, _ => 0
section
variable (hX : ExtFin tE)
include hX
theorem i_cmpg {a b : Int} : Tot (VV 62 [.c (iD a), .c (iD b)]) fun r => r = [iR (cmpI a b)] := by
  rw [b62 hX, e62]
  refine Tot.bind (i_nan hX) ?_
  rintro _ rfl
  repeat (first | ((with_reducible refine Tot.rI (n := ?_) ?_ ?_); rotate_left; exact rfl) | ((with_reducible refine Tot.rB (n := ?_) ?_ ?_); rotate_left; exact rfl) | ((with_reducible refine Tot.rS (n := ?_) ?_ ?_); rotate_left; exact rfl) | ((with_reducible refine Tot.rM (n := ?_) ?_ ?_); rotate_left; exact rfl) | ((with_reducible refine Tot.rO (n := ?_) ?_ ?_); rotate_left; exact rfl) | ((with_reducible refine Tot.dI (n := ?_) ?_ ?_); rotate_left; exact rfl) | ((with_reducible refine Tot.dB (n := ?_) ?_ ?_); rotate_left; exact rfl) | ((with_reducible refine Tot.dS (n := ?_) ?_ ?_); rotate_left; exact rfl) | ((with_reducible refine Tot.dL (n := ?_) (f := ?_) ?_ ?_); rotate_left 2; exact rfl))
  refine Tot.bind (i_nan hX) ?_
  rintro _ rfl
  repeat (first | ((with_reducible refine Tot.rI (n := ?_) ?_ ?_); rotate_left; exact rfl) | ((with_reducible refine Tot.rB (n := ?_) ?_ ?_); rotate_left; exact rfl) | ((with_reducible refine Tot.rS (n := ?_) ?_ ?_); rotate_left; exact rfl) | ((with_reducible refine Tot.rM (n := ?_) ?_ ?_); rotate_left; exact rfl) | ((with_reducible refine Tot.rO (n := ?_) ?_ ?_); rotate_left; exact rfl) | ((with_reducible refine Tot.dI (n := ?_) ?_ ?_); rotate_left; exact rfl) | ((with_reducible refine Tot.dB (n := ?_) ?_ ?_); rotate_left; exact rfl) | ((with_reducible refine Tot.dS (n := ?_) ?_ ?_); rotate_left; exact rfl) | ((with_reducible refine Tot.dL (n := ?_) (f := ?_) ?_ ?_); rotate_left 2; exact rfl))
  refine Tot.cond (fun h => by cases h) fun _ => Tot.cond (fun h => by cases h) fun _ => Tot.cond (fun h => ?_) fun h => Tot.cond (fun h2 => ?_) fun h2 => ?_
  · simp only [decide_eq_true_eq] at h
    exact .some (by unfold cmpI; rw [if_pos h])
  · simp only [decide_eq_true_eq, decide_eq_false_iff_not] at h h2
    exact .some (by unfold cmpI; rw [if_neg h, if_pos h2])
  · simp only [decide_eq_true_eq, decide_eq_false_iff_not] at h h2
    exact .some (by unfold cmpI; rw [if_neg h, if_neg h2])
theorem i_or {a b : Int} : Tot (VV 61 [.c (.s false [[iD a], [iD b]])]) fun r => r = [iR (if a ≠ 0 then a else if b ≠ 0 then b else 0)] := by
  rw [b61 hX, e61]
  have one : ∀ r ∈ ([[iD a], [iD b]] : List Rw), r.length = 1 := by
    intro r hr
    simp only [List.mem_cons, List.not_mem_nil, or_false] at hr
    rcases hr with rfl | rfl <;> rfl
  rw [p61 hX, e61_3]
  refine Tot.cond (fun _ => ?_) fun h => by cases h
  refine Tot.getE (by omega) (by simp) one fun r hr _ => ?_
  cases hr
  repeat (first | ((with_reducible refine Tot.rI (n := ?_) ?_ ?_); rotate_left; exact rfl) | ((with_reducible refine Tot.rB (n := ?_) ?_ ?_); rotate_left; exact rfl) | ((with_reducible refine Tot.rS (n := ?_) ?_ ?_); rotate_left; exact rfl) | ((with_reducible refine Tot.rM (n := ?_) ?_ ?_); rotate_left; exact rfl) | ((with_reducible refine Tot.rO (n := ?_) ?_ ?_); rotate_left; exact rfl) | ((with_reducible refine Tot.dI (n := ?_) ?_ ?_); rotate_left; exact rfl) | ((with_reducible refine Tot.dB (n := ?_) ?_ ?_); rotate_left; exact rfl) | ((with_reducible refine Tot.dS (n := ?_) ?_ ?_); rotate_left; exact rfl) | ((with_reducible refine Tot.dL (n := ?_) (f := ?_) ?_ ?_); rotate_left 2; exact rfl))
  refine Tot.cond (fun h => ?_) fun h => ?_
  · simp only [bne_iff_ne, ne_eq] at h
    exact .some (by rw [if_pos h])
  · simp only [bne_eq_false_iff_eq] at h
    rw [w64 (x := 0 + 1) (by omega) (by omega), p61 hX, e61_3]
    refine Tot.cond (fun _ => ?_) fun h => by cases h
    refine Tot.getE (by omega) (by simp) one fun r hr _ => ?_
    cases hr
    repeat (first | ((with_reducible refine Tot.rI (n := ?_) ?_ ?_); rotate_left; exact rfl) | ((with_reducible refine Tot.rB (n := ?_) ?_ ?_); rotate_left; exact rfl) | ((with_reducible refine Tot.rS (n := ?_) ?_ ?_); rotate_left; exact rfl) | ((with_reducible refine Tot.rM (n := ?_) ?_ ?_); rotate_left; exact rfl) | ((with_reducible refine Tot.rO (n := ?_) ?_ ?_); rotate_left; exact rfl) | ((with_reducible refine Tot.dI (n := ?_) ?_ ?_); rotate_left; exact rfl) | ((with_reducible refine Tot.dB (n := ?_) ?_ ?_); rotate_left; exact rfl) | ((with_reducible refine Tot.dS (n := ?_) ?_ ?_); rotate_left; exact rfl) | ((with_reducible refine Tot.dL (n := ?_) (f := ?_) ?_ ?_); rotate_left 2; exact rfl))
    refine Tot.cond (fun h2 => ?_) fun h2 => ?_
    · simp only [bne_iff_ne, ne_eq] at h2
      exact .some (by rw [if_neg (by simp [h]), if_pos h2])
    · simp only [bne_eq_false_iff_eq] at h2
      rw [w64 (x := 0 + 1 + 1) (by omega) (by omega), p61 hX, e61_3]
      refine Tot.cond (fun h => by cases h) fun _ => ?_
      exact .some (by rw [if_neg (by simp [h]), if_neg (by simp [h2])])
theorem i_cmpp {a b c d : Int} : Tot (VV 60 [.agg [iD a, iD b], .agg [iD c, iD d]]) fun r => r = [iR (cmpP a b c d)] := by
  rw [b60 hX, e60]
  refine Tot.bind (i_cmpg hX) ?_
  rintro _ rfl
  repeat (first | ((with_reducible refine Tot.rI (n := ?_) ?_ ?_); rotate_left; exact rfl) | ((with_reducible refine Tot.rB (n := ?_) ?_ ?_); rotate_left; exact rfl) | ((with_reducible refine Tot.rS (n := ?_) ?_ ?_); rotate_left; exact rfl) | ((with_reducible refine Tot.rM (n := ?_) ?_ ?_); rotate_left; exact rfl) | ((with_reducible refine Tot.rO (n := ?_) ?_ ?_); rotate_left; exact rfl) | ((with_reducible refine Tot.dI (n := ?_) ?_ ?_); rotate_left; exact rfl) | ((with_reducible refine Tot.dB (n := ?_) ?_ ?_); rotate_left; exact rfl) | ((with_reducible refine Tot.dS (n := ?_) ?_ ?_); rotate_left; exact rfl) | ((with_reducible refine Tot.dL (n := ?_) (f := ?_) ?_ ?_); rotate_left 2; exact rfl))
  refine Tot.bind (i_cmpg hX) ?_
  rintro _ rfl
  repeat (first | ((with_reducible refine Tot.rI (n := ?_) ?_ ?_); rotate_left; exact rfl) | ((with_reducible refine Tot.rB (n := ?_) ?_ ?_); rotate_left; exact rfl) | ((with_reducible refine Tot.rS (n := ?_) ?_ ?_); rotate_left; exact rfl) | ((with_reducible refine Tot.rM (n := ?_) ?_ ?_); rotate_left; exact rfl) | ((with_reducible refine Tot.rO (n := ?_) ?_ ?_); rotate_left; exact rfl) | ((with_reducible refine Tot.dI (n := ?_) ?_ ?_); rotate_left; exact rfl) | ((with_reducible refine Tot.dB (n := ?_) ?_ ?_); rotate_left; exact rfl) | ((with_reducible refine Tot.dS (n := ?_) ?_ ?_); rotate_left; exact rfl) | ((with_reducible refine Tot.dL (n := ?_) (f := ?_) ?_ ?_); rotate_left 2; exact rfl))
  rw [show oldL ([[iD (cmpI a c)], [iD (cmpI b d)]] : List Rw) = [[iD (cmpI a c)], [iD (cmpI b d)]] from rfl]
  refine Tot.bind (i_or hX) ?_
  rintro _ rfl
  repeat (first | ((with_reducible refine Tot.rI (n := ?_) ?_ ?_); rotate_left; exact rfl) | ((with_reducible refine Tot.rB (n := ?_) ?_ ?_); rotate_left; exact rfl) | ((with_reducible refine Tot.rS (n := ?_) ?_ ?_); rotate_left; exact rfl) | ((with_reducible refine Tot.rM (n := ?_) ?_ ?_); rotate_left; exact rfl) | ((with_reducible refine Tot.rO (n := ?_) ?_ ?_); rotate_left; exact rfl) | ((with_reducible refine Tot.dI (n := ?_) ?_ ?_); rotate_left; exact rfl) | ((with_reducible refine Tot.dB (n := ?_) ?_ ?_); rotate_left; exact rfl) | ((with_reducible refine Tot.dS (n := ?_) ?_ ?_); rotate_left; exact rfl) | ((with_reducible refine Tot.dL (n := ?_) (f := ?_) ?_ ?_); rotate_left 2; exact rfl))
  exact .some rfl
end
theorem cmpP_neg {a b c d : Int} : cmpP a b c d < 0 ↔ a < c ∨ (a = c ∧ b < d) := by
  unfold cmpP cmpI
  split <;> split at * <;> (try split at *) <;> (try split) <;> (try split at *) <;> (try split) <;> omega
theorem swo_lex {α : Type} (f g : α → Int) (cf : α → α → Int) (h : ∀ x y, cf x y < 0 ↔ f x < f y ∨ (f x = f y ∧ g x < g y)) : Go.Sort.SWO (ltOf cf) where
  irrefl x := by unfold ltOf; simp only [decide_eq_false_iff_not, h]; omega
  trans x y z h1 h2 := by unfold ltOf at *; simp only [decide_eq_true_eq, h] at *; omega
  ntrans x y z h1 h2 := by unfold ltOf at *; simp only [decide_eq_false_iff_not, h] at *; omega
def fstR : Rw → Int
  | .v (.int .i64 a) :: _ => a
  | _ => 0
def sndR : Rw → Int
  | _ :: .v (.int .i64 a) :: _ => a
  | _ => 0
theorem sort_ok : SortOK := by
  intro l hl hn
  have e : VV 59 [.row 2 l, .fn 60 []] = sortX 2 (fun g => Nat.beq g 60) VV [.row 2 l, .fn 60 []] := V_ext ext_fin rfl _
  have hplain : (l.all fun r => r.all plainV) = true := by
    rw [List.all_eq_true]
    intro r hr
    obtain ⟨a, b, rfl⟩ := hl r hr
    rfl
  have hask : ∀ x ∈ l, ∀ y ∈ l, askCmp VV 60 x y = some (cmpR x y) := by
    intro x hx y hy
    obtain ⟨a, b, rfl⟩ := hl x hx
    obtain ⟨c, d, rfl⟩ := hl y hy
    unfold askCmp
    obtain ⟨_, h, rfl⟩ := i_cmpp ext_fin (a := a) (b := b) (c := c) (d := d)
    rw [h]; rfl
  have htbl : mapO (fun x => mapO (fun y => askCmp VV 60 x y) l) l = some (l.map fun x => l.map fun y => cmpR x y) := mapO_some fun x hx => mapO_some fun y hy => hask x hx y hy
  have hO : Go.Sort.SWO (ltOf (cfOf (l.map fun x => l.map fun y => cmpR x y) l.length)) := by
    by_cases h0 : 0 < l.length
    · refine swo_lex (fun i => fstR (rowAt l i)) (fun i => sndR (rowAt l i)) _ fun i j => ?_
      have e : cfOf (l.map fun x => l.map fun y => cmpR x y) l.length i j = cmpR (rowAt l i) (rowAt l j) := by
        unfold cfOf
        have e1 : (l.map fun x => l.map fun y => cmpR x y).getD (i % l.length) [] = l.map fun y => cmpR (rowAt l i) y := by
          rw [List.getD_eq_getElem?_getD, List.getElem?_map, rowAt_mem h0 i]; rfl
        rw [e1, List.getD_eq_getElem?_getD, List.getElem?_map, rowAt_mem h0 j]; rfl
      rw [e]
      obtain ⟨a, b, e1⟩ := hl _ (List.mem_of_getElem? (rowAt_mem h0 i))
      obtain ⟨c, d, e2⟩ := hl _ (List.mem_of_getElem? (rowAt_mem h0 j))
      rw [e1, e2]
      exact cmpP_neg
    · have := List.eq_nil_of_length_eq_zero (by omega : l.length = 0)
      subst this
      refine swo_lex (fun _ => 0) (fun _ => 0) _ fun i j => ?_
      simp [cfOf]
  rw [e, sortX_row (tbl := l.map fun x => l.map fun y => cmpR x y) rfl (by omega) hplain htbl hO]
  obtain ⟨h1, h2⟩ := sorted_mem hO
  exact .some ⟨_, rfl, h1, h2⟩
/-- FnWindows comes out true, whatever the bytes. -/
theorem law_true (zs : List Int) (hz : ∀ n ∈ zs, 0 ≤ n ∧ n ≤ 255) : VV 3 [.c (.s false (zs.map fun n => [.v (.int .u8 n)]))] = some [.v (.bool true)] := win_all ext_fin sort_ok zs hz
end Go.Proofs.YtoiefmhmohhaeaaGreat.VE
