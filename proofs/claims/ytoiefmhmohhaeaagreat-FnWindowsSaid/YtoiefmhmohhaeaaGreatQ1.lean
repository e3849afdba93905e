/- What the functions of the program come to, in plain terms, part 1. -/
import Derived.Test.YtoiefmhmohhaeaaGreatX0
import Derived.IntWalk
set_option linter.all false
/- Aids for the plain laws. -/
set_option linter.unusedVariables false
set_option linter.unusedSimpArgs false
namespace Go.Proofs.YtoiefmhmohhaeaaGreat.VE

abbrev iD (n : Int) : D := .v (.int .i64 n)
abbrev bD (b : Bool) : D := .v (.bool b)
abbrev sD (s : ByteArray) : D := .v (.string s)
abbrev iR (n : Int) : RC := .v (.int .i64 n)
abbrev bR (b : Bool) : RC := .v (.bool b)
abbrev sR (s : ByteArray) : RC := .v (.string s)
abbrev Rw := List D

/-- It comes out, and so. -/
def Tot {α : Type} (x : Option α) (Q : α → Prop) : Prop := ∃ r, x = some r ∧ Q r
section
variable {α γ : Type} {Q : γ → Prop}
theorem Tot.some {α : Type} {Q : α → Prop} {r : α} (h : Q r) : Tot (some r) Q := ⟨r, rfl, h⟩
theorem Tot.bind {x : Option α} {P : α → Prop} {k : α → Option γ} (h : Tot x P) (hk : ∀ a, P a → Tot (k a) Q) : Tot (x.bind k) Q := by
  obtain ⟨a, rfl, ha⟩ := h
  exact hk a ha
theorem Tot.eq {x : Option α} {a : α} {k : α → Option γ} (h : x = Option.some a) (hk : Tot (k a) Q) : Tot (x.bind k) Q := by subst h; exact hk
theorem Tot.rd {x : Option α} {a : α} {k : α → Option γ} (h : x = Option.some a) (hk : Tot (k a) Q) : Tot (x.bind k) Q := by subst h; exact hk
theorem Tot.cond {b : Bool} {x y : Option γ} (hx : b = true → Tot x Q) (hy : b = false → Tot y Q) : Tot (cond b x y) Q := by
  cases b
  · exact hy rfl
  · exact hx rfl
theorem Tot.chk {p : Prop} {k : Unit → Option γ} (h : p) (hk : Tot (k ()) Q) : Tot ((chk p).bind k) Q := by rw [chk_some h]; exact hk
theorem Tot.mono {x : Option γ} {P : γ → Prop} (h : Tot x P) (hp : ∀ a, P a → Q a) : Tot x Q := by
  obtain ⟨a, rfl, ha⟩ := h
  exact ⟨a, rfl, hp a ha⟩
theorem Tot.get {l : List α} {i : Nat} {k : α → Option γ} (h : i < l.length) (hk : ∀ r, l[i]? = Option.some r → r ∈ l → Tot (k r) Q) : Tot ((l[i]?).bind k) Q := by
  have he := List.getElem?_eq_getElem h
  rw [he]
  exact hk _ he (List.getElem_mem h)
theorem Tot.getE {c : Nat} {l : List Rw} {n : Int} {k : Rw → Option γ} (h0 : 0 ≤ n) (h1 : n < l.length) (hl : ∀ r ∈ l, r.length = c) (hk : ∀ r, l[n.toNat]? = Option.some r → r ∈ l → Tot (k r) Q) : Tot ((getE c l n).bind k) Q := by
  have hlt : n.toNat < l.length := by omega
  have he := List.getElem?_eq_getElem hlt
  have hm := List.getElem_mem hlt
  unfold VE.getE
  rw [if_pos h0, he]
  simp only [Option.bind_some, if_pos (hl _ hm)]
  exact hk _ he hm
theorem Tot.getB {s : ByteArray} {n : Int} {k : Int → Option γ} (h0 : 0 ≤ n) (h1 : n < s.size) (hk : ∀ b : UInt8, s[n.toNat]? = Option.some b → Tot (k b.toNat) Q) : Tot ((getB s n).bind k) Q := by
  have hlt : n.toNat < s.size := by omega
  unfold VE.getB
  have he : s[n.toNat]? = Option.some s[n.toNat] := by simp [hlt]
  rw [if_pos h0, he]
  exact hk _ he
theorem Tot.rI {o : Option RC} {n : Int} {k : Int → Option γ} (h : o = Option.some (iR n)) (hk : Tot (k n) Q) : Tot ((rI .i64 o).bind k) Q := by subst h; exact hk
theorem Tot.rB {o : Option RC} {n : Bool} {k : Bool → Option γ} (h : o = Option.some (bR n)) (hk : Tot (k n) Q) : Tot ((rB o).bind k) Q := by subst h; exact hk
theorem Tot.rS {o : Option RC} {n : ByteArray} {k : ByteArray → Option γ} (h : o = Option.some (sR n)) (hk : Tot (k n) Q) : Tot ((rS o).bind k) Q := by subst h; exact hk
theorem Tot.rM {o : Option RC} {n : List Rw} {k : List Rw → Option γ} (h : o = Option.some (.im n)) (hk : Tot (k n) Q) : Tot ((rM o).bind k) Q := by subst h; exact hk
theorem Tot.rO {o : Option RC} {n : List Rw} {k : List Rw → Option γ} (h : o = Option.some (.own n)) (hk : Tot (k n) Q) : Tot ((rO o).bind k) Q := by subst h; exact hk
theorem Tot.dI {o : Option D} {n : Int} {k : Int → Option γ} (h : o = Option.some (iD n)) (hk : Tot (k n) Q) : Tot ((dI .i64 o).bind k) Q := by subst h; exact hk
theorem Tot.dB {o : Option D} {n : Bool} {k : Bool → Option γ} (h : o = Option.some (bD n)) (hk : Tot (k n) Q) : Tot ((dB o).bind k) Q := by subst h; exact hk
theorem Tot.dS {o : Option D} {n : ByteArray} {k : ByteArray → Option γ} (h : o = Option.some (sD n)) (hk : Tot (k n) Q) : Tot ((dS o).bind k) Q := by subst h; exact hk
theorem Tot.dL {o : Option D} {n : List Rw} {f : Bool} {k : List Rw → Option γ} (h : o = Option.some (.s f n)) (hk : Tot (k n) Q) : Tot ((dL o).bind k) Q := by subst h; exact hk
end
theorem w64 {x : Int} (h0 : -9223372036854775808 ≤ x) (h1 : x ≤ 9223372036854775807) : IntKind.wrap .i64 x = x := IntWalk.i64_in x ⟨h0, h1⟩
theorem w64_range (x : Int) : -9223372036854775808 ≤ IntKind.wrap .i64 x ∧ IntKind.wrap .i64 x ≤ 9223372036854775807 := by
  rw [IntKind.wrap_i64]; omega

theorem and_le (x : Int) (m : Nat) (hm : m < 2 ^ 63) : 0 ≤ bitI .and .i64 x m ∧ bitI .and .i64 x m ≤ m := by
  unfold bitI
  simp only []
  have h1 : (BitVec.ofInt IntKind.i64.bits x &&& BitVec.ofInt IntKind.i64.bits (m : Int)).toNat ≤ m := by
    rw [BitVec.toNat_and]
    refine Nat.le_trans Nat.and_le_right ?_
    have : (BitVec.ofInt IntKind.i64.bits (m : Int)).toNat = m % 2 ^ 64 := by
      rw [BitVec.toNat_ofInt]
      show ((m : Int) % ((2 ^ 64 : Nat) : Int)).toNat = _
      rw [← Int.natCast_emod]; rfl
    rw [this]; exact Nat.mod_le _ _
  rw [w64 (by omega) (by omega)]
  omega
end Go.Proofs.YtoiefmhmohhaeaaGreat.VE
/- Draws: they come out. -/
set_option linter.unusedVariables false
set_option linter.unusedSimpArgs false
namespace Go.Proofs.YtoiefmhmohhaeaaGreat.VE

/-- The input, as bytes. -/
def Code8 (bs : List Rw) : Prop := bs.length ≤ 1048576 ∧ ∀ r ∈ bs, ∃ n : Int, r = [.v (.int .u8 n)] ∧ 0 ≤ n ∧ n ≤ 255
def Cu (bs : List Rw) (i : Int) : Prop := Code8 bs ∧ 0 ≤ i ∧ i ≤ bs.length
theorem Code8.one {bs : List Rw} (h : Code8 bs) : ∀ r ∈ bs, r.length = 1 := fun r hr => by obtain ⟨n, rfl, _⟩ := h.2 r hr; rfl

theorem tmod_lt {x n : Int} (hx : 0 ≤ x) (hn : 0 < n) : 0 ≤ Int.tmod x n ∧ Int.tmod x n < n := ⟨Int.tmod_nonneg n hx, Int.tmod_lt_of_pos x hn⟩
theorem tmod_le {x n : Int} (hx : 0 ≤ x) (hn : 0 < n) : Int.tmod x n ≤ x := by
  rw [Int.tmod_eq_emod_of_nonneg hx]
  by_cases h : x < n
  · rw [Int.emod_eq_of_lt hx h]; exact Int.le_refl _
  · have := Int.emod_lt_of_pos x hn; omega

section
variable (hX : ExtFin tE)
include hX

theorem t_new_loop {bs : List Rw} (hb : Code8 bs) : ∀ (k : Nat) (i h : Int), 0 ≤ i → i ≤ bs.length → bs.length - i ≤ k → Tot (VP 46 3 (s46_3 bs h i)) fun r => ∃ h', r = [.im bs, iR 0, iR h']
  | 0, i, h, h0, h1, hk => by
    rw [p46 hX, e46_3]
    refine Tot.cond (fun hc => ?_) fun _ => .some ⟨h, rfl⟩
    simp only [decide_eq_true_eq] at hc; omega
  | k + 1, i, h, h0, h1, hk => by
    rw [p46 hX, e46_3]
    refine Tot.cond (fun hc => Tot.cond (fun hc2 => ?_) fun _ => .some ⟨h, rfl⟩) fun _ => .some ⟨h, rfl⟩
    simp only [decide_eq_true_eq] at hc
    rw [p46 hX, e46_5]
    refine Tot.getE h0 hc hb.one fun r _ hm => ?_
    obtain ⟨n, rfl, hn0, hn1⟩ := hb.2 r hm
    refine Tot.rd rfl ?_
    have := hb.1
    rw [w64 (x := i + 1) (by omega) (by omega)]
    exact t_new_loop hb k _ _ (by omega) (by omega) (by omega)
theorem t_new {bs : List Rw} (hb : Code8 bs) : Tot (VV 46 [.c (.s false bs)]) fun r => ∃ h', r = [.im bs, iR 0, iR h'] := by
  rw [b46 hX, e46]
  exact t_new_loop hX hb bs.length 0 _ (by omega) (by omega) (by omega)

theorem t_byte {bs : List Rw} {i h : Int} (hc : Cu bs i) : Tot (VV 114 [.box [.s false bs, iD i, iD h]]) fun r => ∃ x i' h', r = [iR x, .im bs, iR i', iR h'] ∧ Cu bs i' ∧ 0 ≤ x ∧ x ≤ 255 := by
  obtain ⟨hb, h0, h1⟩ := hc
  rw [b114 hX, e114]
  refine Tot.chk (by omega) (Tot.chk (by omega) ?_)
  refine Tot.cond (fun hc => ?_) fun _ => ?_
  · simp only [decide_eq_true_eq] at hc
    refine Tot.getE h0 hc hb.one fun r _ hm => ?_
    obtain ⟨n, rfl, hn0, hn1⟩ := hb.2 r hm
    refine Tot.rd rfl ?_
    have := hb.1
    rw [w64 (x := i + 1) (by omega) (by omega)]
    exact .some ⟨_, _, _, rfl, ⟨hb, by omega, by omega⟩, (and_le _ 255 (by omega)).1, (and_le _ 255 (by omega)).2⟩
  · exact .some ⟨_, _, _, rfl, ⟨hb, h0, h1⟩, (and_le _ 255 (by omega)).1, (and_le _ 255 (by omega)).2⟩

theorem t_below {bs : List Rw} {i h n : Int} (hc : Cu bs i) : Tot (VV 67 [.box [.s false bs, iD i, iD h], .c (iD n)]) fun r => ∃ x i' h', r = [iR x, .im bs, iR i', iR h'] ∧ Cu bs i' ∧ 0 ≤ x ∧ (0 < n → x < n) ∧ x ≤ 16777215 := by
  rw [b67 hX, e67]
  refine Tot.cond (fun h1 => ?_) fun h1 => ?_
  · simp only [decide_eq_true_eq] at h1
    exact .some ⟨_, _, _, rfl, hc, by omega, by omega, by omega⟩
  · simp only [decide_eq_false_iff_not] at h1
    refine Tot.cond (fun h2 => ?_) fun h2 => ?_
    · refine Tot.bind (t_byte hX hc) ?_
      rintro _ ⟨x, i', h', rfl, hc', hx0, hx1⟩
      repeat (first | ((with_reducible refine Tot.rI (n := ?_) ?_ ?_); rotate_left; exact rfl) | ((with_reducible refine Tot.rB (n := ?_) ?_ ?_); rotate_left; exact rfl) | ((with_reducible refine Tot.rS (n := ?_) ?_ ?_); rotate_left; exact rfl) | ((with_reducible refine Tot.rM (n := ?_) ?_ ?_); rotate_left; exact rfl) | ((with_reducible refine Tot.rO (n := ?_) ?_ ?_); rotate_left; exact rfl) | ((with_reducible refine Tot.dI (n := ?_) ?_ ?_); rotate_left; exact rfl) | ((with_reducible refine Tot.dB (n := ?_) ?_ ?_); rotate_left; exact rfl) | ((with_reducible refine Tot.dS (n := ?_) ?_ ?_); rotate_left; exact rfl) | ((with_reducible refine Tot.dL (n := ?_) (f := ?_) ?_ ?_); rotate_left 2; exact rfl))
      refine Tot.chk (by omega) (.some ⟨_, _, _, rfl, hc', (tmod_lt hx0 (by omega)).1, fun _ => (tmod_lt hx0 (by omega)).2, ?_⟩)
      have : Int.tmod x n ≤ x := tmod_le hx0 (by omega)
      omega
    · refine Tot.bind (t_byte hX hc) ?_
      rintro _ ⟨x, i', h', rfl, hc', hx0, hx1⟩
      repeat (first | ((with_reducible refine Tot.rI (n := ?_) ?_ ?_); rotate_left; exact rfl) | ((with_reducible refine Tot.rB (n := ?_) ?_ ?_); rotate_left; exact rfl) | ((with_reducible refine Tot.rS (n := ?_) ?_ ?_); rotate_left; exact rfl) | ((with_reducible refine Tot.rM (n := ?_) ?_ ?_); rotate_left; exact rfl) | ((with_reducible refine Tot.rO (n := ?_) ?_ ?_); rotate_left; exact rfl) | ((with_reducible refine Tot.dI (n := ?_) ?_ ?_); rotate_left; exact rfl) | ((with_reducible refine Tot.dB (n := ?_) ?_ ?_); rotate_left; exact rfl) | ((with_reducible refine Tot.dS (n := ?_) ?_ ?_); rotate_left; exact rfl) | ((with_reducible refine Tot.dL (n := ?_) (f := ?_) ?_ ?_); rotate_left 2; exact rfl))
      refine Tot.bind (t_byte hX hc') ?_
      rintro _ ⟨y, i2, h2, rfl, hc2, hy0, hy1⟩
      repeat (first | ((with_reducible refine Tot.rI (n := ?_) ?_ ?_); rotate_left; exact rfl) | ((with_reducible refine Tot.rB (n := ?_) ?_ ?_); rotate_left; exact rfl) | ((with_reducible refine Tot.rS (n := ?_) ?_ ?_); rotate_left; exact rfl) | ((with_reducible refine Tot.rM (n := ?_) ?_ ?_); rotate_left; exact rfl) | ((with_reducible refine Tot.rO (n := ?_) ?_ ?_); rotate_left; exact rfl) | ((with_reducible refine Tot.dI (n := ?_) ?_ ?_); rotate_left; exact rfl) | ((with_reducible refine Tot.dB (n := ?_) ?_ ?_); rotate_left; exact rfl) | ((with_reducible refine Tot.dS (n := ?_) ?_ ?_); rotate_left; exact rfl) | ((with_reducible refine Tot.dL (n := ?_) (f := ?_) ?_ ?_); rotate_left 2; exact rfl))
      refine Tot.bind (t_byte hX hc2) ?_
      rintro _ ⟨z, i3, h3, rfl, hc3, hz0, hz1⟩
      repeat (first | ((with_reducible refine Tot.rI (n := ?_) ?_ ?_); rotate_left; exact rfl) | ((with_reducible refine Tot.rB (n := ?_) ?_ ?_); rotate_left; exact rfl) | ((with_reducible refine Tot.rS (n := ?_) ?_ ?_); rotate_left; exact rfl) | ((with_reducible refine Tot.rM (n := ?_) ?_ ?_); rotate_left; exact rfl) | ((with_reducible refine Tot.rO (n := ?_) ?_ ?_); rotate_left; exact rfl) | ((with_reducible refine Tot.dI (n := ?_) ?_ ?_); rotate_left; exact rfl) | ((with_reducible refine Tot.dB (n := ?_) ?_ ?_); rotate_left; exact rfl) | ((with_reducible refine Tot.dS (n := ?_) ?_ ?_); rotate_left; exact rfl) | ((with_reducible refine Tot.dL (n := ?_) (f := ?_) ?_ ?_); rotate_left 2; exact rfl))
      have e1 : IntKind.wrap .i64 (x * 65536) = x * 65536 := w64 (by omega) (by omega)
      have e2 : IntKind.wrap .i64 (y * 256) = y * 256 := w64 (by omega) (by omega)
      have e3 : IntKind.wrap .i64 (x * 65536 + y * 256) = x * 65536 + y * 256 := w64 (by omega) (by omega)
      have e4 : IntKind.wrap .i64 (x * 65536 + y * 256 + z) = x * 65536 + y * 256 + z := w64 (by omega) (by omega)
      rw [e1, e2, e3, e4]
      have hs : 0 ≤ x * 65536 + y * 256 + z := by omega
      refine Tot.chk (by omega) (.some ⟨_, _, _, rfl, hc3, (tmod_lt hs (by omega)).1, fun _ => (tmod_lt hs (by omega)).2, ?_⟩)
      have : Int.tmod (x * 65536 + y * 256 + z) n ≤ x * 65536 + y * 256 + z := tmod_le hs (by omega)
      omega
end
end Go.Proofs.YtoiefmhmohhaeaaGreat.VE
/- Draws, continued: points, windows, lines. -/
set_option linter.unusedVariables false
set_option linter.unusedSimpArgs false
namespace Go.Proofs.YtoiefmhmohhaeaaGreat.VE

def allI : List Rw → Bool
  | [] => true
  | [.v (.int .i64 _)] :: l => allI l
  | _ => false
theorem allI_mem : ∀ {l : List Rw}, allI l = true → ∀ r ∈ l, ∃ n, r = [iD n]
  | [], _, _, hr => by cases hr
  | [.v (.int .i64 n)] :: l, h, r, hr => by
    rcases List.mem_cons.mp hr with rfl | hr
    · exact ⟨n, rfl⟩
    · exact allI_mem (l := l) h r hr
def allS : List Rw → Bool
  | [] => true
  | [.v (.string s)] :: l => decide (s.size ≤ 100) && allS l
  | _ => false
theorem Code8.cu {bs : List Rw} (hb : Code8 bs) : Cu bs 0 := ⟨hb, by omega, by omega⟩
theorem allS_mem : ∀ {l : List Rw}, allS l = true → ∀ r ∈ l, ∃ n, r = [sD n] ∧ n.size ≤ 100
  | [], _, _, hr => by cases hr
  | [.v (.string n)] :: l, h, r, hr => by
    have h : (decide (n.size ≤ 100) && allS l) = true := h
    rcases List.mem_cons.mp hr with rfl | hr
    · exact ⟨n, rfl, of_decide_eq_true (Bool.and_eq_true_iff.mp h).1⟩
    · exact allS_mem (l := l) (Bool.and_eq_true_iff.mp h).2 r hr

/-- Points, as rows. -/
def Po (l : List Rw) : Prop := ∀ r ∈ l, ∃ x y, r = [iD x, iD y]
theorem Po.two {l : List Rw} (h : Po l) : ∀ r ∈ l, r.length = 2 := fun r hr => by obtain ⟨x, y, rfl⟩ := h r hr; rfl
theorem Po.nil : Po [] := fun _ h => by cases h
theorem Po.cons {x y : Int} {l : List Rw} (h : Po l) : Po ([iD x, iD y] :: l) := fun r hr => by
  rcases List.mem_cons.mp hr with rfl | hr
  · exact ⟨x, y, rfl⟩
  · exact h r hr
theorem Po.app {l m : List Rw} (h : Po l) (hm : Po m) : Po (l ++ m) := fun r hr => by
  rcases List.mem_append.mp hr with hr | hr
  · exact h r hr
  · exact hm r hr
theorem Po.old {l : List Rw} (h : Po l) : oldL l = l := by
  induction l with
  | nil => rfl
  | cons r l ih =>
    obtain ⟨x, y, rfl⟩ := h r (List.mem_cons_self ..)
    show _ :: oldL l = _
    rw [ih fun r hr => h r (List.mem_cons_of_mem _ hr)]; rfl

section
variable (hX : ExtFin tE)
include hX

theorem t_int {bs l : List Rw} {i h : Int} (hc : Cu bs i) (hl : allI l = true) (h0 : 0 < l.length) : Tot (VV 48 [.box [.s false bs, iD i, iD h], .c (.s false l)]) fun r => ∃ x i' h', r = [iR x, .im bs, iR i', iR h'] ∧ Cu bs i' ∧ [iD x] ∈ l := by
  rw [b48 hX, e48]
  refine Tot.bind (t_below hX hc) ?_
  rintro _ ⟨x, i, h, rfl, hc, hx, hy, -⟩
  repeat (first | ((with_reducible refine Tot.rI (n := ?_) ?_ ?_); rotate_left; exact rfl) | ((with_reducible refine Tot.rB (n := ?_) ?_ ?_); rotate_left; exact rfl) | ((with_reducible refine Tot.rS (n := ?_) ?_ ?_); rotate_left; exact rfl) | ((with_reducible refine Tot.rM (n := ?_) ?_ ?_); rotate_left; exact rfl) | ((with_reducible refine Tot.rO (n := ?_) ?_ ?_); rotate_left; exact rfl) | ((with_reducible refine Tot.dI (n := ?_) ?_ ?_); rotate_left; exact rfl) | ((with_reducible refine Tot.dB (n := ?_) ?_ ?_); rotate_left; exact rfl) | ((with_reducible refine Tot.dS (n := ?_) ?_ ?_); rotate_left; exact rfl) | ((with_reducible refine Tot.dL (n := ?_) (f := ?_) ?_ ?_); rotate_left 2; exact rfl))
  refine Tot.getE hx (hy (by omega)) (fun r hr => by obtain ⟨n, rfl⟩ := allI_mem hl r hr; rfl) fun r _ hm => ?_
  obtain ⟨n, rfl⟩ := allI_mem hl r hm
  refine Tot.rd rfl ?_
  exact .some ⟨_, _, _, rfl, hc, hm⟩
theorem t_str {bs l : List Rw} {i h : Int} (hc : Cu bs i) (hl : allS l = true) (h0 : 0 < l.length) : Tot (VV 78 [.box [.s false bs, iD i, iD h], .c (.s false l)]) fun r => ∃ x i' h', r = [sR x, .im bs, iR i', iR h'] ∧ Cu bs i' ∧ x.size ≤ 100 := by
  rw [b78 hX, e78]
  refine Tot.bind (t_below hX hc) ?_
  rintro _ ⟨x, i, h, rfl, hc, hx, hy, -⟩
  repeat (first | ((with_reducible refine Tot.rI (n := ?_) ?_ ?_); rotate_left; exact rfl) | ((with_reducible refine Tot.rB (n := ?_) ?_ ?_); rotate_left; exact rfl) | ((with_reducible refine Tot.rS (n := ?_) ?_ ?_); rotate_left; exact rfl) | ((with_reducible refine Tot.rM (n := ?_) ?_ ?_); rotate_left; exact rfl) | ((with_reducible refine Tot.rO (n := ?_) ?_ ?_); rotate_left; exact rfl) | ((with_reducible refine Tot.dI (n := ?_) ?_ ?_); rotate_left; exact rfl) | ((with_reducible refine Tot.dB (n := ?_) ?_ ?_); rotate_left; exact rfl) | ((with_reducible refine Tot.dS (n := ?_) ?_ ?_); rotate_left; exact rfl) | ((with_reducible refine Tot.dL (n := ?_) (f := ?_) ?_ ?_); rotate_left 2; exact rfl))
  refine Tot.getE hx (hy (by omega)) (fun r hr => by obtain ⟨n, rfl, _⟩ := allS_mem hl r hr; rfl) fun r _ hm => ?_
  obtain ⟨n, rfl, hn⟩ := allS_mem hl r hm
  refine Tot.rd rfl ?_
  exact .some ⟨_, _, _, rfl, hc, hn⟩
theorem t_4draw {bs : List Rw} {i h : Int} (hc : Cu bs i) : Tot (VV 95 [.box [.s false bs, iD i, iD h]]) fun r => ∃ x y i' h', r = [iR x, iR y, .im bs, iR i', iR h'] ∧ Cu bs i' ∧ 0 ≤ x ∧ x < 12 ∧ 0 ≤ y ∧ y < 12 := by
  rw [b95 hX, e95]
  refine Tot.bind (t_below hX hc) ?_
  rintro _ ⟨x, i, h, rfl, hc, hx, hy, -⟩
  repeat (first | ((with_reducible refine Tot.rI (n := ?_) ?_ ?_); rotate_left; exact rfl) | ((with_reducible refine Tot.rB (n := ?_) ?_ ?_); rotate_left; exact rfl) | ((with_reducible refine Tot.rS (n := ?_) ?_ ?_); rotate_left; exact rfl) | ((with_reducible refine Tot.rM (n := ?_) ?_ ?_); rotate_left; exact rfl) | ((with_reducible refine Tot.rO (n := ?_) ?_ ?_); rotate_left; exact rfl) | ((with_reducible refine Tot.dI (n := ?_) ?_ ?_); rotate_left; exact rfl) | ((with_reducible refine Tot.dB (n := ?_) ?_ ?_); rotate_left; exact rfl) | ((with_reducible refine Tot.dS (n := ?_) ?_ ?_); rotate_left; exact rfl) | ((with_reducible refine Tot.dL (n := ?_) (f := ?_) ?_ ?_); rotate_left 2; exact rfl))
  refine Tot.bind (t_below hX hc) ?_
  rintro _ ⟨y, i, h, rfl, hc, hx2, hy2, -⟩
  repeat (first | ((with_reducible refine Tot.rI (n := ?_) ?_ ?_); rotate_left; exact rfl) | ((with_reducible refine Tot.rB (n := ?_) ?_ ?_); rotate_left; exact rfl) | ((with_reducible refine Tot.rS (n := ?_) ?_ ?_); rotate_left; exact rfl) | ((with_reducible refine Tot.rM (n := ?_) ?_ ?_); rotate_left; exact rfl) | ((with_reducible refine Tot.rO (n := ?_) ?_ ?_); rotate_left; exact rfl) | ((with_reducible refine Tot.dI (n := ?_) ?_ ?_); rotate_left; exact rfl) | ((with_reducible refine Tot.dB (n := ?_) ?_ ?_); rotate_left; exact rfl) | ((with_reducible refine Tot.dS (n := ?_) ?_ ?_); rotate_left; exact rfl) | ((with_reducible refine Tot.dL (n := ?_) (f := ?_) ?_ ?_); rotate_left 2; exact rfl))
  exact .some ⟨_, _, _, _, rfl, hc, hx, hy (by omega), hx2, hy2 (by omega)⟩
theorem t_4raw {bs : List Rw} {i h : Int} (hc : Cu bs i) : Tot (VV 133 [.box [.s false bs, iD i, iD h]]) fun r => ∃ x i' h', r = [iR x, .im bs, iR i', iR h'] ∧ Cu bs i' := by
  rw [b133 hX, e133]
  refine Tot.bind (t_int hX hc rfl (by decide)) ?_
  rintro _ ⟨x, i, h, rfl, hc, -⟩
  repeat (first | ((with_reducible refine Tot.rI (n := ?_) ?_ ?_); rotate_left; exact rfl) | ((with_reducible refine Tot.rB (n := ?_) ?_ ?_); rotate_left; exact rfl) | ((with_reducible refine Tot.rS (n := ?_) ?_ ?_); rotate_left; exact rfl) | ((with_reducible refine Tot.rM (n := ?_) ?_ ?_); rotate_left; exact rfl) | ((with_reducible refine Tot.rO (n := ?_) ?_ ?_); rotate_left; exact rfl) | ((with_reducible refine Tot.dI (n := ?_) ?_ ?_); rotate_left; exact rfl) | ((with_reducible refine Tot.dB (n := ?_) ?_ ?_); rotate_left; exact rfl) | ((with_reducible refine Tot.dS (n := ?_) ?_ ?_); rotate_left; exact rfl) | ((with_reducible refine Tot.dL (n := ?_) (f := ?_) ?_ ?_); rotate_left 2; exact rfl))
  exact .some ⟨_, _, _, rfl, hc⟩
theorem t_4any {bs : List Rw} {i h : Int} (hc : Cu bs i) : Tot (VV 96 [.box [.s false bs, iD i, iD h]]) fun r => ∃ x y i' h', r = [iR x, iR y, .im bs, iR i', iR h'] ∧ Cu bs i' := by
  rw [b96 hX, e96]
  refine Tot.bind (t_4draw hX hc) ?_
  rintro _ ⟨x, y, i, h, rfl, hc, -⟩
  repeat (first | ((with_reducible refine Tot.rI (n := ?_) ?_ ?_); rotate_left; exact rfl) | ((with_reducible refine Tot.rB (n := ?_) ?_ ?_); rotate_left; exact rfl) | ((with_reducible refine Tot.rS (n := ?_) ?_ ?_); rotate_left; exact rfl) | ((with_reducible refine Tot.rM (n := ?_) ?_ ?_); rotate_left; exact rfl) | ((with_reducible refine Tot.rO (n := ?_) ?_ ?_); rotate_left; exact rfl) | ((with_reducible refine Tot.dI (n := ?_) ?_ ?_); rotate_left; exact rfl) | ((with_reducible refine Tot.dB (n := ?_) ?_ ?_); rotate_left; exact rfl) | ((with_reducible refine Tot.dS (n := ?_) ?_ ?_); rotate_left; exact rfl) | ((with_reducible refine Tot.dL (n := ?_) (f := ?_) ?_ ?_); rotate_left 2; exact rfl))
  refine Tot.bind (t_below hX hc) ?_
  rintro _ ⟨z, i, h, rfl, hc, -⟩
  repeat (first | ((with_reducible refine Tot.rI (n := ?_) ?_ ?_); rotate_left; exact rfl) | ((with_reducible refine Tot.rB (n := ?_) ?_ ?_); rotate_left; exact rfl) | ((with_reducible refine Tot.rS (n := ?_) ?_ ?_); rotate_left; exact rfl) | ((with_reducible refine Tot.rM (n := ?_) ?_ ?_); rotate_left; exact rfl) | ((with_reducible refine Tot.rO (n := ?_) ?_ ?_); rotate_left; exact rfl) | ((with_reducible refine Tot.dI (n := ?_) ?_ ?_); rotate_left; exact rfl) | ((with_reducible refine Tot.dB (n := ?_) ?_ ?_); rotate_left; exact rfl) | ((with_reducible refine Tot.dS (n := ?_) ?_ ?_); rotate_left; exact rfl) | ((with_reducible refine Tot.dL (n := ?_) (f := ?_) ?_ ?_); rotate_left 2; exact rfl))
  refine Tot.cond (fun _ => ?_) fun _ => Tot.cond (fun _ => ?_) fun _ => ?_
  · refine Tot.bind (t_4raw hX hc) ?_
    rintro _ ⟨z, i, h, rfl, hc⟩
    repeat (first | ((with_reducible refine Tot.rI (n := ?_) ?_ ?_); rotate_left; exact rfl) | ((with_reducible refine Tot.rB (n := ?_) ?_ ?_); rotate_left; exact rfl) | ((with_reducible refine Tot.rS (n := ?_) ?_ ?_); rotate_left; exact rfl) | ((with_reducible refine Tot.rM (n := ?_) ?_ ?_); rotate_left; exact rfl) | ((with_reducible refine Tot.rO (n := ?_) ?_ ?_); rotate_left; exact rfl) | ((with_reducible refine Tot.dI (n := ?_) ?_ ?_); rotate_left; exact rfl) | ((with_reducible refine Tot.dB (n := ?_) ?_ ?_); rotate_left; exact rfl) | ((with_reducible refine Tot.dS (n := ?_) ?_ ?_); rotate_left; exact rfl) | ((with_reducible refine Tot.dL (n := ?_) (f := ?_) ?_ ?_); rotate_left 2; exact rfl))
    exact .some ⟨_, _, _, _, rfl, hc⟩
  · refine Tot.bind (t_4raw hX hc) ?_
    rintro _ ⟨z, i, h, rfl, hc⟩
    repeat (first | ((with_reducible refine Tot.rI (n := ?_) ?_ ?_); rotate_left; exact rfl) | ((with_reducible refine Tot.rB (n := ?_) ?_ ?_); rotate_left; exact rfl) | ((with_reducible refine Tot.rS (n := ?_) ?_ ?_); rotate_left; exact rfl) | ((with_reducible refine Tot.rM (n := ?_) ?_ ?_); rotate_left; exact rfl) | ((with_reducible refine Tot.rO (n := ?_) ?_ ?_); rotate_left; exact rfl) | ((with_reducible refine Tot.dI (n := ?_) ?_ ?_); rotate_left; exact rfl) | ((with_reducible refine Tot.dB (n := ?_) ?_ ?_); rotate_left; exact rfl) | ((with_reducible refine Tot.dS (n := ?_) ?_ ?_); rotate_left; exact rfl) | ((with_reducible refine Tot.dL (n := ?_) (f := ?_) ?_ ?_); rotate_left 2; exact rfl))
    exact .some ⟨_, _, _, _, rfl, hc⟩
  · exact .some ⟨_, _, _, _, rfl, hc⟩
theorem t_38draw {bs : List Rw} {i h : Int} (hc : Cu bs i) : Tot (VV 47 [.box [.s false bs, iD i, iD h]]) fun r => ∃ x y z u i' h', r = [iR x, iR y, iR z, iR u, .im bs, iR i', iR h'] ∧ Cu bs i' := by
  rw [b47 hX, e47]
  refine Tot.bind (t_4draw hX hc) ?_
  rintro _ ⟨x, y, i, h, rfl, hc, -⟩
  repeat (first | ((with_reducible refine Tot.rI (n := ?_) ?_ ?_); rotate_left; exact rfl) | ((with_reducible refine Tot.rB (n := ?_) ?_ ?_); rotate_left; exact rfl) | ((with_reducible refine Tot.rS (n := ?_) ?_ ?_); rotate_left; exact rfl) | ((with_reducible refine Tot.rM (n := ?_) ?_ ?_); rotate_left; exact rfl) | ((with_reducible refine Tot.rO (n := ?_) ?_ ?_); rotate_left; exact rfl) | ((with_reducible refine Tot.dI (n := ?_) ?_ ?_); rotate_left; exact rfl) | ((with_reducible refine Tot.dB (n := ?_) ?_ ?_); rotate_left; exact rfl) | ((with_reducible refine Tot.dS (n := ?_) ?_ ?_); rotate_left; exact rfl) | ((with_reducible refine Tot.dL (n := ?_) (f := ?_) ?_ ?_); rotate_left 2; exact rfl))
  refine Tot.bind (t_below hX hc) ?_
  rintro _ ⟨z, i, h, rfl, hc, -⟩
  repeat (first | ((with_reducible refine Tot.rI (n := ?_) ?_ ?_); rotate_left; exact rfl) | ((with_reducible refine Tot.rB (n := ?_) ?_ ?_); rotate_left; exact rfl) | ((with_reducible refine Tot.rS (n := ?_) ?_ ?_); rotate_left; exact rfl) | ((with_reducible refine Tot.rM (n := ?_) ?_ ?_); rotate_left; exact rfl) | ((with_reducible refine Tot.rO (n := ?_) ?_ ?_); rotate_left; exact rfl) | ((with_reducible refine Tot.dI (n := ?_) ?_ ?_); rotate_left; exact rfl) | ((with_reducible refine Tot.dB (n := ?_) ?_ ?_); rotate_left; exact rfl) | ((with_reducible refine Tot.dS (n := ?_) ?_ ?_); rotate_left; exact rfl) | ((with_reducible refine Tot.dL (n := ?_) (f := ?_) ?_ ?_); rotate_left 2; exact rfl))
  refine Tot.bind (t_below hX hc) ?_
  rintro _ ⟨z2, i, h, rfl, hc, -⟩
  repeat (first | ((with_reducible refine Tot.rI (n := ?_) ?_ ?_); rotate_left; exact rfl) | ((with_reducible refine Tot.rB (n := ?_) ?_ ?_); rotate_left; exact rfl) | ((with_reducible refine Tot.rS (n := ?_) ?_ ?_); rotate_left; exact rfl) | ((with_reducible refine Tot.rM (n := ?_) ?_ ?_); rotate_left; exact rfl) | ((with_reducible refine Tot.rO (n := ?_) ?_ ?_); rotate_left; exact rfl) | ((with_reducible refine Tot.dI (n := ?_) ?_ ?_); rotate_left; exact rfl) | ((with_reducible refine Tot.dB (n := ?_) ?_ ?_); rotate_left; exact rfl) | ((with_reducible refine Tot.dS (n := ?_) ?_ ?_); rotate_left; exact rfl) | ((with_reducible refine Tot.dL (n := ?_) (f := ?_) ?_ ?_); rotate_left 2; exact rfl))
  refine Tot.bind (t_below hX hc) ?_
  rintro _ ⟨z3, i, h, rfl, hc, -⟩
  repeat (first | ((with_reducible refine Tot.rI (n := ?_) ?_ ?_); rotate_left; exact rfl) | ((with_reducible refine Tot.rB (n := ?_) ?_ ?_); rotate_left; exact rfl) | ((with_reducible refine Tot.rS (n := ?_) ?_ ?_); rotate_left; exact rfl) | ((with_reducible refine Tot.rM (n := ?_) ?_ ?_); rotate_left; exact rfl) | ((with_reducible refine Tot.rO (n := ?_) ?_ ?_); rotate_left; exact rfl) | ((with_reducible refine Tot.dI (n := ?_) ?_ ?_); rotate_left; exact rfl) | ((with_reducible refine Tot.dB (n := ?_) ?_ ?_); rotate_left; exact rfl) | ((with_reducible refine Tot.dS (n := ?_) ?_ ?_); rotate_left; exact rfl) | ((with_reducible refine Tot.dL (n := ?_) (f := ?_) ?_ ?_); rotate_left 2; exact rfl))
  refine Tot.cond (fun _ => ?_) fun _ => Tot.cond (fun _ => ?_) fun _ => Tot.cond (fun _ => ?_) fun _ => Tot.cond (fun _ => ?_) fun _ => ?_
  · exact .some ⟨_, _, _, _, _, _, rfl, hc⟩
  · refine Tot.bind (t_int hX hc rfl (by decide)) ?_
    rintro _ ⟨x, i, h, rfl, hc, -⟩
    repeat (first | ((with_reducible refine Tot.rI (n := ?_) ?_ ?_); rotate_left; exact rfl) | ((with_reducible refine Tot.rB (n := ?_) ?_ ?_); rotate_left; exact rfl) | ((with_reducible refine Tot.rS (n := ?_) ?_ ?_); rotate_left; exact rfl) | ((with_reducible refine Tot.rM (n := ?_) ?_ ?_); rotate_left; exact rfl) | ((with_reducible refine Tot.rO (n := ?_) ?_ ?_); rotate_left; exact rfl) | ((with_reducible refine Tot.dI (n := ?_) ?_ ?_); rotate_left; exact rfl) | ((with_reducible refine Tot.dB (n := ?_) ?_ ?_); rotate_left; exact rfl) | ((with_reducible refine Tot.dS (n := ?_) ?_ ?_); rotate_left; exact rfl) | ((with_reducible refine Tot.dL (n := ?_) (f := ?_) ?_ ?_); rotate_left 2; exact rfl))
    exact .some ⟨_, _, _, _, _, _, rfl, hc⟩
  · refine Tot.bind (t_int hX hc rfl (by decide)) ?_
    rintro _ ⟨x, i, h, rfl, hc, -⟩
    repeat (first | ((with_reducible refine Tot.rI (n := ?_) ?_ ?_); rotate_left; exact rfl) | ((with_reducible refine Tot.rB (n := ?_) ?_ ?_); rotate_left; exact rfl) | ((with_reducible refine Tot.rS (n := ?_) ?_ ?_); rotate_left; exact rfl) | ((with_reducible refine Tot.rM (n := ?_) ?_ ?_); rotate_left; exact rfl) | ((with_reducible refine Tot.rO (n := ?_) ?_ ?_); rotate_left; exact rfl) | ((with_reducible refine Tot.dI (n := ?_) ?_ ?_); rotate_left; exact rfl) | ((with_reducible refine Tot.dB (n := ?_) ?_ ?_); rotate_left; exact rfl) | ((with_reducible refine Tot.dS (n := ?_) ?_ ?_); rotate_left; exact rfl) | ((with_reducible refine Tot.dL (n := ?_) (f := ?_) ?_ ?_); rotate_left 2; exact rfl))
    exact .some ⟨_, _, _, _, _, _, rfl, hc⟩
  · refine Tot.bind (t_4any hX hc) ?_
    rintro _ ⟨x, y, i, h, rfl, hc⟩
    repeat (first | ((with_reducible refine Tot.rI (n := ?_) ?_ ?_); rotate_left; exact rfl) | ((with_reducible refine Tot.rB (n := ?_) ?_ ?_); rotate_left; exact rfl) | ((with_reducible refine Tot.rS (n := ?_) ?_ ?_); rotate_left; exact rfl) | ((with_reducible refine Tot.rM (n := ?_) ?_ ?_); rotate_left; exact rfl) | ((with_reducible refine Tot.rO (n := ?_) ?_ ?_); rotate_left; exact rfl) | ((with_reducible refine Tot.dI (n := ?_) ?_ ?_); rotate_left; exact rfl) | ((with_reducible refine Tot.dB (n := ?_) ?_ ?_); rotate_left; exact rfl) | ((with_reducible refine Tot.dS (n := ?_) ?_ ?_); rotate_left; exact rfl) | ((with_reducible refine Tot.dL (n := ?_) (f := ?_) ?_ ?_); rotate_left 2; exact rfl))
    exact .some ⟨_, _, _, _, _, _, rfl, hc⟩
  · exact .some ⟨_, _, _, _, _, _, rfl, hc⟩

theorem t_DrawPan {bs : List Rw} (hb : Code8 bs) : Tot (VV 7 [.c (.s false bs)]) fun r => ∃ x y z u dx dy, r = [iR x, iR y, iR z, iR u, iR dx, iR dy] ∧ -9000000000000000000 ≤ dx ∧ dx ≤ 9000000000000000000 ∧ -9000000000000000000 ≤ dy ∧ dy ≤ 9000000000000000000 := by
  rw [b7 hX, e7]
  refine Tot.bind (t_new hX hb) ?_
  rintro _ ⟨h, rfl⟩
  repeat (first | ((with_reducible refine Tot.rI (n := ?_) ?_ ?_); rotate_left; exact rfl) | ((with_reducible refine Tot.rB (n := ?_) ?_ ?_); rotate_left; exact rfl) | ((with_reducible refine Tot.rS (n := ?_) ?_ ?_); rotate_left; exact rfl) | ((with_reducible refine Tot.rM (n := ?_) ?_ ?_); rotate_left; exact rfl) | ((with_reducible refine Tot.rO (n := ?_) ?_ ?_); rotate_left; exact rfl) | ((with_reducible refine Tot.dI (n := ?_) ?_ ?_); rotate_left; exact rfl) | ((with_reducible refine Tot.dB (n := ?_) ?_ ?_); rotate_left; exact rfl) | ((with_reducible refine Tot.dS (n := ?_) ?_ ?_); rotate_left; exact rfl) | ((with_reducible refine Tot.dL (n := ?_) (f := ?_) ?_ ?_); rotate_left 2; exact rfl))
  refine Tot.bind (t_38draw hX (Code8.cu hb)) ?_
  rintro _ ⟨x, y, z, u, i, h, rfl, hc⟩
  repeat (first | ((with_reducible refine Tot.rI (n := ?_) ?_ ?_); rotate_left; exact rfl) | ((with_reducible refine Tot.rB (n := ?_) ?_ ?_); rotate_left; exact rfl) | ((with_reducible refine Tot.rS (n := ?_) ?_ ?_); rotate_left; exact rfl) | ((with_reducible refine Tot.rM (n := ?_) ?_ ?_); rotate_left; exact rfl) | ((with_reducible refine Tot.rO (n := ?_) ?_ ?_); rotate_left; exact rfl) | ((with_reducible refine Tot.dI (n := ?_) ?_ ?_); rotate_left; exact rfl) | ((with_reducible refine Tot.dB (n := ?_) ?_ ?_); rotate_left; exact rfl) | ((with_reducible refine Tot.dS (n := ?_) ?_ ?_); rotate_left; exact rfl) | ((with_reducible refine Tot.dL (n := ?_) (f := ?_) ?_ ?_); rotate_left 2; exact rfl))
  refine Tot.bind (t_int hX hc rfl (by decide)) ?_
  rintro _ ⟨dx, i, h, rfl, hc, hm⟩
  repeat (first | ((with_reducible refine Tot.rI (n := ?_) ?_ ?_); rotate_left; exact rfl) | ((with_reducible refine Tot.rB (n := ?_) ?_ ?_); rotate_left; exact rfl) | ((with_reducible refine Tot.rS (n := ?_) ?_ ?_); rotate_left; exact rfl) | ((with_reducible refine Tot.rM (n := ?_) ?_ ?_); rotate_left; exact rfl) | ((with_reducible refine Tot.rO (n := ?_) ?_ ?_); rotate_left; exact rfl) | ((with_reducible refine Tot.dI (n := ?_) ?_ ?_); rotate_left; exact rfl) | ((with_reducible refine Tot.dB (n := ?_) ?_ ?_); rotate_left; exact rfl) | ((with_reducible refine Tot.dS (n := ?_) ?_ ?_); rotate_left; exact rfl) | ((with_reducible refine Tot.dL (n := ?_) (f := ?_) ?_ ?_); rotate_left 2; exact rfl))
  refine Tot.bind (t_int hX hc rfl (by decide)) ?_
  rintro _ ⟨dy, i, h, rfl, hc, hm2⟩
  repeat (first | ((with_reducible refine Tot.rI (n := ?_) ?_ ?_); rotate_left; exact rfl) | ((with_reducible refine Tot.rB (n := ?_) ?_ ?_); rotate_left; exact rfl) | ((with_reducible refine Tot.rS (n := ?_) ?_ ?_); rotate_left; exact rfl) | ((with_reducible refine Tot.rM (n := ?_) ?_ ?_); rotate_left; exact rfl) | ((with_reducible refine Tot.rO (n := ?_) ?_ ?_); rotate_left; exact rfl) | ((with_reducible refine Tot.dI (n := ?_) ?_ ?_); rotate_left; exact rfl) | ((with_reducible refine Tot.dB (n := ?_) ?_ ?_); rotate_left; exact rfl) | ((with_reducible refine Tot.dS (n := ?_) ?_ ?_); rotate_left; exact rfl) | ((with_reducible refine Tot.dL (n := ?_) (f := ?_) ?_ ?_); rotate_left 2; exact rfl))
  refine .some ⟨_, _, _, _, _, _, rfl, ?_⟩
  have e1 : ∀ l : List Rw, ∀ n : Int, [iD n] ∈ l → allI l = true → (l.all fun r => match r with | [.v (.int .i64 n)] => decide (-9000000000000000000 ≤ n ∧ n ≤ 9000000000000000000) | _ => false) = true → -9000000000000000000 ≤ n ∧ n ≤ 9000000000000000000 := by
    intro l n hn _ ha
    have := List.all_eq_true.mp ha _ hn
    simpa using this
  have a1 := e1 _ _ hm rfl rfl
  have a2 := e1 _ _ hm2 rfl rfl
  exact ⟨a1.1, a1.2, a2.1, a2.2⟩
theorem t_once {bs : List Rw} {i h n : Int} (hc : Cu bs i) : Tot (VV 52 [.box [.s false bs, iD i, iD h], .c (iD n)]) fun r => ∃ x i' h', r = [bR x, .im bs, iR i', iR h'] ∧ Cu bs i' := by
  rw [b52 hX, e52]
  refine Tot.bind (t_below hX hc) ?_
  rintro _ ⟨z, i, h, rfl, hc, -⟩
  repeat (first | ((with_reducible refine Tot.rI (n := ?_) ?_ ?_); rotate_left; exact rfl) | ((with_reducible refine Tot.rB (n := ?_) ?_ ?_); rotate_left; exact rfl) | ((with_reducible refine Tot.rS (n := ?_) ?_ ?_); rotate_left; exact rfl) | ((with_reducible refine Tot.rM (n := ?_) ?_ ?_); rotate_left; exact rfl) | ((with_reducible refine Tot.rO (n := ?_) ?_ ?_); rotate_left; exact rfl) | ((with_reducible refine Tot.dI (n := ?_) ?_ ?_); rotate_left; exact rfl) | ((with_reducible refine Tot.dB (n := ?_) ?_ ?_); rotate_left; exact rfl) | ((with_reducible refine Tot.dS (n := ?_) ?_ ?_); rotate_left; exact rfl) | ((with_reducible refine Tot.dL (n := ?_) (f := ?_) ?_ ?_); rotate_left 2; exact rfl))
  exact .some ⟨_, _, _, rfl, hc⟩
theorem t_DrawZoom {bs : List Rw} (hb : Code8 bs) : Tot (VV 10 [.c (.s false bs)]) fun r => ∃ x y z u b, r = [iR x, iR y, iR z, iR u, bR b] := by
  rw [b10 hX, e10]
  refine Tot.bind (t_new hX hb) ?_
  rintro _ ⟨h, rfl⟩
  repeat (first | ((with_reducible refine Tot.rI (n := ?_) ?_ ?_); rotate_left; exact rfl) | ((with_reducible refine Tot.rB (n := ?_) ?_ ?_); rotate_left; exact rfl) | ((with_reducible refine Tot.rS (n := ?_) ?_ ?_); rotate_left; exact rfl) | ((with_reducible refine Tot.rM (n := ?_) ?_ ?_); rotate_left; exact rfl) | ((with_reducible refine Tot.rO (n := ?_) ?_ ?_); rotate_left; exact rfl) | ((with_reducible refine Tot.dI (n := ?_) ?_ ?_); rotate_left; exact rfl) | ((with_reducible refine Tot.dB (n := ?_) ?_ ?_); rotate_left; exact rfl) | ((with_reducible refine Tot.dS (n := ?_) ?_ ?_); rotate_left; exact rfl) | ((with_reducible refine Tot.dL (n := ?_) (f := ?_) ?_ ?_); rotate_left 2; exact rfl))
  refine Tot.bind (t_38draw hX (Code8.cu hb)) ?_
  rintro _ ⟨x, y, z, u, i, h, rfl, hc⟩
  repeat (first | ((with_reducible refine Tot.rI (n := ?_) ?_ ?_); rotate_left; exact rfl) | ((with_reducible refine Tot.rB (n := ?_) ?_ ?_); rotate_left; exact rfl) | ((with_reducible refine Tot.rS (n := ?_) ?_ ?_); rotate_left; exact rfl) | ((with_reducible refine Tot.rM (n := ?_) ?_ ?_); rotate_left; exact rfl) | ((with_reducible refine Tot.rO (n := ?_) ?_ ?_); rotate_left; exact rfl) | ((with_reducible refine Tot.dI (n := ?_) ?_ ?_); rotate_left; exact rfl) | ((with_reducible refine Tot.dB (n := ?_) ?_ ?_); rotate_left; exact rfl) | ((with_reducible refine Tot.dS (n := ?_) ?_ ?_); rotate_left; exact rfl) | ((with_reducible refine Tot.dL (n := ?_) (f := ?_) ?_ ?_); rotate_left 2; exact rfl))
  refine Tot.bind (t_once hX hc) ?_
  rintro _ ⟨b, i, h, rfl, hc⟩
  repeat (first | ((with_reducible refine Tot.rI (n := ?_) ?_ ?_); rotate_left; exact rfl) | ((with_reducible refine Tot.rB (n := ?_) ?_ ?_); rotate_left; exact rfl) | ((with_reducible refine Tot.rS (n := ?_) ?_ ?_); rotate_left; exact rfl) | ((with_reducible refine Tot.rM (n := ?_) ?_ ?_); rotate_left; exact rfl) | ((with_reducible refine Tot.rO (n := ?_) ?_ ?_); rotate_left; exact rfl) | ((with_reducible refine Tot.dI (n := ?_) ?_ ?_); rotate_left; exact rfl) | ((with_reducible refine Tot.dB (n := ?_) ?_ ?_); rotate_left; exact rfl) | ((with_reducible refine Tot.dS (n := ?_) ?_ ?_); rotate_left; exact rfl) | ((with_reducible refine Tot.dL (n := ?_) (f := ?_) ?_ ?_); rotate_left 2; exact rfl))
  exact .some ⟨_, _, _, _, _, rfl⟩
theorem t_min {a b : Int} : Tot (VV 176 [.c (iD a), .c (iD b)]) fun r => ∃ n, r = [iR n] := by
  rw [b176 hX, e176]
  repeat' first
    | exact Tot.some ⟨_, rfl⟩
    | refine Tot.cond (fun _ => ?_) (fun _ => ?_)
    | (first | ((with_reducible refine Tot.rI (n := ?_) ?_ ?_); rotate_left; exact rfl) | ((with_reducible refine Tot.rB (n := ?_) ?_ ?_); rotate_left; exact rfl) | ((with_reducible refine Tot.rS (n := ?_) ?_ ?_); rotate_left; exact rfl) | ((with_reducible refine Tot.rM (n := ?_) ?_ ?_); rotate_left; exact rfl) | ((with_reducible refine Tot.rO (n := ?_) ?_ ?_); rotate_left; exact rfl) | ((with_reducible refine Tot.dI (n := ?_) ?_ ?_); rotate_left; exact rfl) | ((with_reducible refine Tot.dB (n := ?_) ?_ ?_); rotate_left; exact rfl) | ((with_reducible refine Tot.dS (n := ?_) ?_ ?_); rotate_left; exact rfl) | ((with_reducible refine Tot.dL (n := ?_) (f := ?_) ?_ ?_); rotate_left 2; exact rfl))
theorem t_6draw_loop {bs : List Rw} : ∀ (k : Nat) (n i h : Int) (l : List Rw), Cu bs i → Po l → 0 < l.length → l.length + n ≤ 20 → n ≤ 10 → 0 ≤ n → n ≤ k → Tot (VP 135 3 (s135_3 n l bs i h)) fun r => ∃ l' i' h', r = [.own l', .im bs, iR i', iR h'] ∧ Cu bs i' ∧ Po l' ∧ 0 < l'.length ∧ l'.length ≤ 20
  | 0, n, i, h, l, hc, hl, h1, h2, h3, h4, hk => by
    rw [p135 hX, e135_3]
    refine Tot.cond (fun hx => ?_) fun hx => ?_
    · simp only [decide_eq_true_eq] at hx; omega
    · exact .some ⟨_, _, _, rfl, hc, hl, h1, by omega⟩
  | k + 1, n, i, h, l, hc, hl, h1, h2, h3, h4, hk => by
    rw [p135 hX, e135_3]
    refine Tot.cond (fun hx => ?_) fun hx => ?_
    · simp only [decide_eq_true_eq] at hx
      rw [w64 (x := (l.length : Int) - 1) (by omega) (by omega), w64 (x := n - 1) (by omega) (by omega)]
      refine Tot.chk (by omega) (Tot.get (by omega) fun r _ hr => ?_)
      obtain ⟨x, y, rfl⟩ := hl r hr
      repeat (first | ((with_reducible refine Tot.rI (n := ?_) ?_ ?_); rotate_left; exact rfl) | ((with_reducible refine Tot.rB (n := ?_) ?_ ?_); rotate_left; exact rfl) | ((with_reducible refine Tot.rS (n := ?_) ?_ ?_); rotate_left; exact rfl) | ((with_reducible refine Tot.rM (n := ?_) ?_ ?_); rotate_left; exact rfl) | ((with_reducible refine Tot.rO (n := ?_) ?_ ?_); rotate_left; exact rfl) | ((with_reducible refine Tot.dI (n := ?_) ?_ ?_); rotate_left; exact rfl) | ((with_reducible refine Tot.dB (n := ?_) ?_ ?_); rotate_left; exact rfl) | ((with_reducible refine Tot.dS (n := ?_) ?_ ?_); rotate_left; exact rfl) | ((with_reducible refine Tot.dL (n := ?_) (f := ?_) ?_ ?_); rotate_left 2; exact rfl))
      refine Tot.bind (t_below hX hc) ?_
      rintro _ ⟨u, i, h, rfl, hc, -⟩
      repeat (first | ((with_reducible refine Tot.rI (n := ?_) ?_ ?_); rotate_left; exact rfl) | ((with_reducible refine Tot.rB (n := ?_) ?_ ?_); rotate_left; exact rfl) | ((with_reducible refine Tot.rS (n := ?_) ?_ ?_); rotate_left; exact rfl) | ((with_reducible refine Tot.rM (n := ?_) ?_ ?_); rotate_left; exact rfl) | ((with_reducible refine Tot.rO (n := ?_) ?_ ?_); rotate_left; exact rfl) | ((with_reducible refine Tot.dI (n := ?_) ?_ ?_); rotate_left; exact rfl) | ((with_reducible refine Tot.dB (n := ?_) ?_ ?_); rotate_left; exact rfl) | ((with_reducible refine Tot.dS (n := ?_) ?_ ?_); rotate_left; exact rfl) | ((with_reducible refine Tot.dL (n := ?_) (f := ?_) ?_ ?_); rotate_left 2; exact rfl))
      refine Tot.bind (t_below hX hc) ?_
      rintro _ ⟨v, i, h, rfl, hc, -⟩
      repeat (first | ((with_reducible refine Tot.rI (n := ?_) ?_ ?_); rotate_left; exact rfl) | ((with_reducible refine Tot.rB (n := ?_) ?_ ?_); rotate_left; exact rfl) | ((with_reducible refine Tot.rS (n := ?_) ?_ ?_); rotate_left; exact rfl) | ((with_reducible refine Tot.rM (n := ?_) ?_ ?_); rotate_left; exact rfl) | ((with_reducible refine Tot.rO (n := ?_) ?_ ?_); rotate_left; exact rfl) | ((with_reducible refine Tot.dI (n := ?_) ?_ ?_); rotate_left; exact rfl) | ((with_reducible refine Tot.dB (n := ?_) ?_ ?_); rotate_left; exact rfl) | ((with_reducible refine Tot.dS (n := ?_) ?_ ?_); rotate_left; exact rfl) | ((with_reducible refine Tot.dL (n := ?_) (f := ?_) ?_ ?_); rotate_left 2; exact rfl))
      refine Tot.bind (t_min hX) ?_
      rintro _ ⟨w, rfl⟩
      repeat (first | ((with_reducible refine Tot.rI (n := ?_) ?_ ?_); rotate_left; exact rfl) | ((with_reducible refine Tot.rB (n := ?_) ?_ ?_); rotate_left; exact rfl) | ((with_reducible refine Tot.rS (n := ?_) ?_ ?_); rotate_left; exact rfl) | ((with_reducible refine Tot.rM (n := ?_) ?_ ?_); rotate_left; exact rfl) | ((with_reducible refine Tot.rO (n := ?_) ?_ ?_); rotate_left; exact rfl) | ((with_reducible refine Tot.dI (n := ?_) ?_ ?_); rotate_left; exact rfl) | ((with_reducible refine Tot.dB (n := ?_) ?_ ?_); rotate_left; exact rfl) | ((with_reducible refine Tot.dS (n := ?_) ?_ ?_); rotate_left; exact rfl) | ((with_reducible refine Tot.dL (n := ?_) (f := ?_) ?_ ?_); rotate_left 2; exact rfl))
      refine Tot.cond (fun _ => ?_) fun _ => ?_
      all_goals
        refine Tot.chk (by simp only [List.length_cons, List.length_nil]; omega) ?_
        refine t_6draw_loop k _ _ _ _ hc (hl.app (Po.cons Po.nil)) ?_ ?_ ?_ ?_ ?_ <;> (try simp only [List.length_append, List.length_cons, List.length_nil]) <;> omega
    · exact .some ⟨_, _, _, rfl, hc, hl, h1, by omega⟩
theorem t_6draw {bs : List Rw} {i h : Int} (hc : Cu bs i) : Tot (VV 135 [.box [.s false bs, iD i, iD h]]) fun r => ∃ l' i' h', r = [.own l', .im bs, iR i', iR h'] ∧ Cu bs i' ∧ Po l' ∧ 0 < l'.length ∧ l'.length ≤ 20 := by
  rw [b135 hX, e135]
  refine Tot.bind (t_4draw hX hc) ?_
  rintro _ ⟨x, y, i, h, rfl, hc, -⟩
  repeat (first | ((with_reducible refine Tot.rI (n := ?_) ?_ ?_); rotate_left; exact rfl) | ((with_reducible refine Tot.rB (n := ?_) ?_ ?_); rotate_left; exact rfl) | ((with_reducible refine Tot.rS (n := ?_) ?_ ?_); rotate_left; exact rfl) | ((with_reducible refine Tot.rM (n := ?_) ?_ ?_); rotate_left; exact rfl) | ((with_reducible refine Tot.rO (n := ?_) ?_ ?_); rotate_left; exact rfl) | ((with_reducible refine Tot.dI (n := ?_) ?_ ?_); rotate_left; exact rfl) | ((with_reducible refine Tot.dB (n := ?_) ?_ ?_); rotate_left; exact rfl) | ((with_reducible refine Tot.dS (n := ?_) ?_ ?_); rotate_left; exact rfl) | ((with_reducible refine Tot.dL (n := ?_) (f := ?_) ?_ ?_); rotate_left 2; exact rfl))
  refine Tot.bind (t_below hX hc) ?_
  rintro _ ⟨z, i, h, rfl, hc, hz, hz2, -⟩
  repeat (first | ((with_reducible refine Tot.rI (n := ?_) ?_ ?_); rotate_left; exact rfl) | ((with_reducible refine Tot.rB (n := ?_) ?_ ?_); rotate_left; exact rfl) | ((with_reducible refine Tot.rS (n := ?_) ?_ ?_); rotate_left; exact rfl) | ((with_reducible refine Tot.rM (n := ?_) ?_ ?_); rotate_left; exact rfl) | ((with_reducible refine Tot.rO (n := ?_) ?_ ?_); rotate_left; exact rfl) | ((with_reducible refine Tot.dI (n := ?_) ?_ ?_); rotate_left; exact rfl) | ((with_reducible refine Tot.dB (n := ?_) ?_ ?_); rotate_left; exact rfl) | ((with_reducible refine Tot.dS (n := ?_) ?_ ?_); rotate_left; exact rfl) | ((with_reducible refine Tot.dL (n := ?_) (f := ?_) ?_ ?_); rotate_left 2; exact rfl))
  have := hz2 (by omega)
  rw [w64 (x := 1 + z) (by omega) (by omega)]
  exact t_6draw_loop hX 10 _ _ _ _ hc (Po.cons Po.nil) (by simp) (by simp only [List.length_cons, List.length_nil]; omega) (by omega) (by omega) (by omega)
theorem t_9name {bs : List Rw} {i h : Int} (hc : Cu bs i) : Tot (VV 160 [.box [.s false bs, iD i, iD h]]) fun r => ∃ x i' h', r = [sR x, .im bs, iR i', iR h'] ∧ Cu bs i' ∧ x.size ≤ 100 := by
  rw [b160 hX, e160]
  refine Tot.bind (t_str hX hc rfl (by decide)) ?_
  rintro _ ⟨x, i, h, rfl, hc, hx⟩
  repeat (first | ((with_reducible refine Tot.rI (n := ?_) ?_ ?_); rotate_left; exact rfl) | ((with_reducible refine Tot.rB (n := ?_) ?_ ?_); rotate_left; exact rfl) | ((with_reducible refine Tot.rS (n := ?_) ?_ ?_); rotate_left; exact rfl) | ((with_reducible refine Tot.rM (n := ?_) ?_ ?_); rotate_left; exact rfl) | ((with_reducible refine Tot.rO (n := ?_) ?_ ?_); rotate_left; exact rfl) | ((with_reducible refine Tot.dI (n := ?_) ?_ ?_); rotate_left; exact rfl) | ((with_reducible refine Tot.dB (n := ?_) ?_ ?_); rotate_left; exact rfl) | ((with_reducible refine Tot.dS (n := ?_) ?_ ?_); rotate_left; exact rfl) | ((with_reducible refine Tot.dL (n := ?_) (f := ?_) ?_ ?_); rotate_left 2; exact rfl))
  exact .some ⟨_, _, _, rfl, hc, hx⟩
theorem t_7p {a b : Int} : Tot (VV 191 [.c (iD a), .c (iD b)]) fun r => ∃ x y, r = [iR x, iR y] := by
  rw [b191 hX, e191]
  exact .some ⟨_, _, rfl⟩
theorem t_7draw {bs : List Rw} {i h : Int} (hc : Cu bs i) : Tot (VV 161 [.box [.s false bs, iD i, iD h]]) fun r => ∃ l' i' h', r = [.own l', .im bs, iR i', iR h'] ∧ Cu bs i' ∧ Po l' ∧ 0 < l'.length ∧ l'.length ≤ 20 := by
  rw [b161 hX, e161]
  refine Tot.bind (t_below hX hc) ?_
  rintro _ ⟨z, i, h, rfl, hc, -⟩
  repeat (first | ((with_reducible refine Tot.rI (n := ?_) ?_ ?_); rotate_left; exact rfl) | ((with_reducible refine Tot.rB (n := ?_) ?_ ?_); rotate_left; exact rfl) | ((with_reducible refine Tot.rS (n := ?_) ?_ ?_); rotate_left; exact rfl) | ((with_reducible refine Tot.rM (n := ?_) ?_ ?_); rotate_left; exact rfl) | ((with_reducible refine Tot.rO (n := ?_) ?_ ?_); rotate_left; exact rfl) | ((with_reducible refine Tot.dI (n := ?_) ?_ ?_); rotate_left; exact rfl) | ((with_reducible refine Tot.dB (n := ?_) ?_ ?_); rotate_left; exact rfl) | ((with_reducible refine Tot.dS (n := ?_) ?_ ?_); rotate_left; exact rfl) | ((with_reducible refine Tot.dL (n := ?_) (f := ?_) ?_ ?_); rotate_left 2; exact rfl))
  refine Tot.bind (t_below hX hc) ?_
  rintro _ ⟨z2, i, h, rfl, hc, -⟩
  repeat (first | ((with_reducible refine Tot.rI (n := ?_) ?_ ?_); rotate_left; exact rfl) | ((with_reducible refine Tot.rB (n := ?_) ?_ ?_); rotate_left; exact rfl) | ((with_reducible refine Tot.rS (n := ?_) ?_ ?_); rotate_left; exact rfl) | ((with_reducible refine Tot.rM (n := ?_) ?_ ?_); rotate_left; exact rfl) | ((with_reducible refine Tot.rO (n := ?_) ?_ ?_); rotate_left; exact rfl) | ((with_reducible refine Tot.dI (n := ?_) ?_ ?_); rotate_left; exact rfl) | ((with_reducible refine Tot.dB (n := ?_) ?_ ?_); rotate_left; exact rfl) | ((with_reducible refine Tot.dS (n := ?_) ?_ ?_); rotate_left; exact rfl) | ((with_reducible refine Tot.dL (n := ?_) (f := ?_) ?_ ?_); rotate_left 2; exact rfl))
  refine Tot.bind (t_below hX hc) ?_
  rintro _ ⟨z3, i, h, rfl, hc, -⟩
  repeat (first | ((with_reducible refine Tot.rI (n := ?_) ?_ ?_); rotate_left; exact rfl) | ((with_reducible refine Tot.rB (n := ?_) ?_ ?_); rotate_left; exact rfl) | ((with_reducible refine Tot.rS (n := ?_) ?_ ?_); rotate_left; exact rfl) | ((with_reducible refine Tot.rM (n := ?_) ?_ ?_); rotate_left; exact rfl) | ((with_reducible refine Tot.rO (n := ?_) ?_ ?_); rotate_left; exact rfl) | ((with_reducible refine Tot.dI (n := ?_) ?_ ?_); rotate_left; exact rfl) | ((with_reducible refine Tot.dB (n := ?_) ?_ ?_); rotate_left; exact rfl) | ((with_reducible refine Tot.dS (n := ?_) ?_ ?_); rotate_left; exact rfl) | ((with_reducible refine Tot.dL (n := ?_) (f := ?_) ?_ ?_); rotate_left 2; exact rfl))
  refine Tot.bind (t_below hX hc) ?_
  rintro _ ⟨z4, i, h, rfl, hc, -⟩
  repeat (first | ((with_reducible refine Tot.rI (n := ?_) ?_ ?_); rotate_left; exact rfl) | ((with_reducible refine Tot.rB (n := ?_) ?_ ?_); rotate_left; exact rfl) | ((with_reducible refine Tot.rS (n := ?_) ?_ ?_); rotate_left; exact rfl) | ((with_reducible refine Tot.rM (n := ?_) ?_ ?_); rotate_left; exact rfl) | ((with_reducible refine Tot.rO (n := ?_) ?_ ?_); rotate_left; exact rfl) | ((with_reducible refine Tot.dI (n := ?_) ?_ ?_); rotate_left; exact rfl) | ((with_reducible refine Tot.dB (n := ?_) ?_ ?_); rotate_left; exact rfl) | ((with_reducible refine Tot.dS (n := ?_) ?_ ?_); rotate_left; exact rfl) | ((with_reducible refine Tot.dL (n := ?_) (f := ?_) ?_ ?_); rotate_left 2; exact rfl))
  refine Tot.bind (t_below hX hc) ?_
  rintro _ ⟨z5, i, h, rfl, hc, -⟩
  repeat (first | ((with_reducible refine Tot.rI (n := ?_) ?_ ?_); rotate_left; exact rfl) | ((with_reducible refine Tot.rB (n := ?_) ?_ ?_); rotate_left; exact rfl) | ((with_reducible refine Tot.rS (n := ?_) ?_ ?_); rotate_left; exact rfl) | ((with_reducible refine Tot.rM (n := ?_) ?_ ?_); rotate_left; exact rfl) | ((with_reducible refine Tot.rO (n := ?_) ?_ ?_); rotate_left; exact rfl) | ((with_reducible refine Tot.dI (n := ?_) ?_ ?_); rotate_left; exact rfl) | ((with_reducible refine Tot.dB (n := ?_) ?_ ?_); rotate_left; exact rfl) | ((with_reducible refine Tot.dS (n := ?_) ?_ ?_); rotate_left; exact rfl) | ((with_reducible refine Tot.dL (n := ?_) (f := ?_) ?_ ?_); rotate_left 2; exact rfl))
  refine Tot.cond (fun _ => ?_) fun _ => Tot.cond (fun _ => ?_) fun _ => Tot.cond (fun _ => ?_) fun _ => ?_
  · refine Tot.bind (t_7p hX) ?_
    rintro _ ⟨_, _, rfl⟩
    repeat (first | ((with_reducible refine Tot.rI (n := ?_) ?_ ?_); rotate_left; exact rfl) | ((with_reducible refine Tot.rB (n := ?_) ?_ ?_); rotate_left; exact rfl) | ((with_reducible refine Tot.rS (n := ?_) ?_ ?_); rotate_left; exact rfl) | ((with_reducible refine Tot.rM (n := ?_) ?_ ?_); rotate_left; exact rfl) | ((with_reducible refine Tot.rO (n := ?_) ?_ ?_); rotate_left; exact rfl) | ((with_reducible refine Tot.dI (n := ?_) ?_ ?_); rotate_left; exact rfl) | ((with_reducible refine Tot.dB (n := ?_) ?_ ?_); rotate_left; exact rfl) | ((with_reducible refine Tot.dS (n := ?_) ?_ ?_); rotate_left; exact rfl) | ((with_reducible refine Tot.dL (n := ?_) (f := ?_) ?_ ?_); rotate_left 2; exact rfl))
    refine Tot.bind (t_7p hX) ?_
    rintro _ ⟨_, _, rfl⟩
    repeat (first | ((with_reducible refine Tot.rI (n := ?_) ?_ ?_); rotate_left; exact rfl) | ((with_reducible refine Tot.rB (n := ?_) ?_ ?_); rotate_left; exact rfl) | ((with_reducible refine Tot.rS (n := ?_) ?_ ?_); rotate_left; exact rfl) | ((with_reducible refine Tot.rM (n := ?_) ?_ ?_); rotate_left; exact rfl) | ((with_reducible refine Tot.rO (n := ?_) ?_ ?_); rotate_left; exact rfl) | ((with_reducible refine Tot.dI (n := ?_) ?_ ?_); rotate_left; exact rfl) | ((with_reducible refine Tot.dB (n := ?_) ?_ ?_); rotate_left; exact rfl) | ((with_reducible refine Tot.dS (n := ?_) ?_ ?_); rotate_left; exact rfl) | ((with_reducible refine Tot.dL (n := ?_) (f := ?_) ?_ ?_); rotate_left 2; exact rfl))
    refine Tot.bind (t_7p hX) ?_
    rintro _ ⟨_, _, rfl⟩
    repeat (first | ((with_reducible refine Tot.rI (n := ?_) ?_ ?_); rotate_left; exact rfl) | ((with_reducible refine Tot.rB (n := ?_) ?_ ?_); rotate_left; exact rfl) | ((with_reducible refine Tot.rS (n := ?_) ?_ ?_); rotate_left; exact rfl) | ((with_reducible refine Tot.rM (n := ?_) ?_ ?_); rotate_left; exact rfl) | ((with_reducible refine Tot.rO (n := ?_) ?_ ?_); rotate_left; exact rfl) | ((with_reducible refine Tot.dI (n := ?_) ?_ ?_); rotate_left; exact rfl) | ((with_reducible refine Tot.dB (n := ?_) ?_ ?_); rotate_left; exact rfl) | ((with_reducible refine Tot.dS (n := ?_) ?_ ?_); rotate_left; exact rfl) | ((with_reducible refine Tot.dL (n := ?_) (f := ?_) ?_ ?_); rotate_left 2; exact rfl))
    refine Tot.bind (t_7p hX) ?_
    rintro _ ⟨_, _, rfl⟩
    repeat (first | ((with_reducible refine Tot.rI (n := ?_) ?_ ?_); rotate_left; exact rfl) | ((with_reducible refine Tot.rB (n := ?_) ?_ ?_); rotate_left; exact rfl) | ((with_reducible refine Tot.rS (n := ?_) ?_ ?_); rotate_left; exact rfl) | ((with_reducible refine Tot.rM (n := ?_) ?_ ?_); rotate_left; exact rfl) | ((with_reducible refine Tot.rO (n := ?_) ?_ ?_); rotate_left; exact rfl) | ((with_reducible refine Tot.dI (n := ?_) ?_ ?_); rotate_left; exact rfl) | ((with_reducible refine Tot.dB (n := ?_) ?_ ?_); rotate_left; exact rfl) | ((with_reducible refine Tot.dS (n := ?_) ?_ ?_); rotate_left; exact rfl) | ((with_reducible refine Tot.dL (n := ?_) (f := ?_) ?_ ?_); rotate_left 2; exact rfl))
    exact .some ⟨_, _, _, rfl, hc, Po.nil.cons.cons.cons.cons, by simp, by simp⟩
  · refine Tot.bind (t_7p hX) ?_
    rintro _ ⟨_, _, rfl⟩
    repeat (first | ((with_reducible refine Tot.rI (n := ?_) ?_ ?_); rotate_left; exact rfl) | ((with_reducible refine Tot.rB (n := ?_) ?_ ?_); rotate_left; exact rfl) | ((with_reducible refine Tot.rS (n := ?_) ?_ ?_); rotate_left; exact rfl) | ((with_reducible refine Tot.rM (n := ?_) ?_ ?_); rotate_left; exact rfl) | ((with_reducible refine Tot.rO (n := ?_) ?_ ?_); rotate_left; exact rfl) | ((with_reducible refine Tot.dI (n := ?_) ?_ ?_); rotate_left; exact rfl) | ((with_reducible refine Tot.dB (n := ?_) ?_ ?_); rotate_left; exact rfl) | ((with_reducible refine Tot.dS (n := ?_) ?_ ?_); rotate_left; exact rfl) | ((with_reducible refine Tot.dL (n := ?_) (f := ?_) ?_ ?_); rotate_left 2; exact rfl))
    refine Tot.bind (t_7p hX) ?_
    rintro _ ⟨_, _, rfl⟩
    repeat (first | ((with_reducible refine Tot.rI (n := ?_) ?_ ?_); rotate_left; exact rfl) | ((with_reducible refine Tot.rB (n := ?_) ?_ ?_); rotate_left; exact rfl) | ((with_reducible refine Tot.rS (n := ?_) ?_ ?_); rotate_left; exact rfl) | ((with_reducible refine Tot.rM (n := ?_) ?_ ?_); rotate_left; exact rfl) | ((with_reducible refine Tot.rO (n := ?_) ?_ ?_); rotate_left; exact rfl) | ((with_reducible refine Tot.dI (n := ?_) ?_ ?_); rotate_left; exact rfl) | ((with_reducible refine Tot.dB (n := ?_) ?_ ?_); rotate_left; exact rfl) | ((with_reducible refine Tot.dS (n := ?_) ?_ ?_); rotate_left; exact rfl) | ((with_reducible refine Tot.dL (n := ?_) (f := ?_) ?_ ?_); rotate_left 2; exact rfl))
    refine Tot.bind (t_7p hX) ?_
    rintro _ ⟨_, _, rfl⟩
    repeat (first | ((with_reducible refine Tot.rI (n := ?_) ?_ ?_); rotate_left; exact rfl) | ((with_reducible refine Tot.rB (n := ?_) ?_ ?_); rotate_left; exact rfl) | ((with_reducible refine Tot.rS (n := ?_) ?_ ?_); rotate_left; exact rfl) | ((with_reducible refine Tot.rM (n := ?_) ?_ ?_); rotate_left; exact rfl) | ((with_reducible refine Tot.rO (n := ?_) ?_ ?_); rotate_left; exact rfl) | ((with_reducible refine Tot.dI (n := ?_) ?_ ?_); rotate_left; exact rfl) | ((with_reducible refine Tot.dB (n := ?_) ?_ ?_); rotate_left; exact rfl) | ((with_reducible refine Tot.dS (n := ?_) ?_ ?_); rotate_left; exact rfl) | ((with_reducible refine Tot.dL (n := ?_) (f := ?_) ?_ ?_); rotate_left 2; exact rfl))
    exact .some ⟨_, _, _, rfl, hc, Po.nil.cons.cons.cons, by simp, by simp⟩
  · refine Tot.bind (t_7p hX) ?_
    rintro _ ⟨_, _, rfl⟩
    repeat (first | ((with_reducible refine Tot.rI (n := ?_) ?_ ?_); rotate_left; exact rfl) | ((with_reducible refine Tot.rB (n := ?_) ?_ ?_); rotate_left; exact rfl) | ((with_reducible refine Tot.rS (n := ?_) ?_ ?_); rotate_left; exact rfl) | ((with_reducible refine Tot.rM (n := ?_) ?_ ?_); rotate_left; exact rfl) | ((with_reducible refine Tot.rO (n := ?_) ?_ ?_); rotate_left; exact rfl) | ((with_reducible refine Tot.dI (n := ?_) ?_ ?_); rotate_left; exact rfl) | ((with_reducible refine Tot.dB (n := ?_) ?_ ?_); rotate_left; exact rfl) | ((with_reducible refine Tot.dS (n := ?_) ?_ ?_); rotate_left; exact rfl) | ((with_reducible refine Tot.dL (n := ?_) (f := ?_) ?_ ?_); rotate_left 2; exact rfl))
    refine Tot.bind (t_7p hX) ?_
    rintro _ ⟨_, _, rfl⟩
    repeat (first | ((with_reducible refine Tot.rI (n := ?_) ?_ ?_); rotate_left; exact rfl) | ((with_reducible refine Tot.rB (n := ?_) ?_ ?_); rotate_left; exact rfl) | ((with_reducible refine Tot.rS (n := ?_) ?_ ?_); rotate_left; exact rfl) | ((with_reducible refine Tot.rM (n := ?_) ?_ ?_); rotate_left; exact rfl) | ((with_reducible refine Tot.rO (n := ?_) ?_ ?_); rotate_left; exact rfl) | ((with_reducible refine Tot.dI (n := ?_) ?_ ?_); rotate_left; exact rfl) | ((with_reducible refine Tot.dB (n := ?_) ?_ ?_); rotate_left; exact rfl) | ((with_reducible refine Tot.dS (n := ?_) ?_ ?_); rotate_left; exact rfl) | ((with_reducible refine Tot.dL (n := ?_) (f := ?_) ?_ ?_); rotate_left 2; exact rfl))
    refine Tot.bind (t_7p hX) ?_
    rintro _ ⟨_, _, rfl⟩
    repeat (first | ((with_reducible refine Tot.rI (n := ?_) ?_ ?_); rotate_left; exact rfl) | ((with_reducible refine Tot.rB (n := ?_) ?_ ?_); rotate_left; exact rfl) | ((with_reducible refine Tot.rS (n := ?_) ?_ ?_); rotate_left; exact rfl) | ((with_reducible refine Tot.rM (n := ?_) ?_ ?_); rotate_left; exact rfl) | ((with_reducible refine Tot.rO (n := ?_) ?_ ?_); rotate_left; exact rfl) | ((with_reducible refine Tot.dI (n := ?_) ?_ ?_); rotate_left; exact rfl) | ((with_reducible refine Tot.dB (n := ?_) ?_ ?_); rotate_left; exact rfl) | ((with_reducible refine Tot.dS (n := ?_) ?_ ?_); rotate_left; exact rfl) | ((with_reducible refine Tot.dL (n := ?_) (f := ?_) ?_ ?_); rotate_left 2; exact rfl))
    refine Tot.bind (t_7p hX) ?_
    rintro _ ⟨_, _, rfl⟩
    repeat (first | ((with_reducible refine Tot.rI (n := ?_) ?_ ?_); rotate_left; exact rfl) | ((with_reducible refine Tot.rB (n := ?_) ?_ ?_); rotate_left; exact rfl) | ((with_reducible refine Tot.rS (n := ?_) ?_ ?_); rotate_left; exact rfl) | ((with_reducible refine Tot.rM (n := ?_) ?_ ?_); rotate_left; exact rfl) | ((with_reducible refine Tot.rO (n := ?_) ?_ ?_); rotate_left; exact rfl) | ((with_reducible refine Tot.dI (n := ?_) ?_ ?_); rotate_left; exact rfl) | ((with_reducible refine Tot.dB (n := ?_) ?_ ?_); rotate_left; exact rfl) | ((with_reducible refine Tot.dS (n := ?_) ?_ ?_); rotate_left; exact rfl) | ((with_reducible refine Tot.dL (n := ?_) (f := ?_) ?_ ?_); rotate_left 2; exact rfl))
    refine Tot.bind (t_7p hX) ?_
    rintro _ ⟨_, _, rfl⟩
    repeat (first | ((with_reducible refine Tot.rI (n := ?_) ?_ ?_); rotate_left; exact rfl) | ((with_reducible refine Tot.rB (n := ?_) ?_ ?_); rotate_left; exact rfl) | ((with_reducible refine Tot.rS (n := ?_) ?_ ?_); rotate_left; exact rfl) | ((with_reducible refine Tot.rM (n := ?_) ?_ ?_); rotate_left; exact rfl) | ((with_reducible refine Tot.rO (n := ?_) ?_ ?_); rotate_left; exact rfl) | ((with_reducible refine Tot.dI (n := ?_) ?_ ?_); rotate_left; exact rfl) | ((with_reducible refine Tot.dB (n := ?_) ?_ ?_); rotate_left; exact rfl) | ((with_reducible refine Tot.dS (n := ?_) ?_ ?_); rotate_left; exact rfl) | ((with_reducible refine Tot.dL (n := ?_) (f := ?_) ?_ ?_); rotate_left 2; exact rfl))
    refine Tot.bind (t_7p hX) ?_
    rintro _ ⟨_, _, rfl⟩
    repeat (first | ((with_reducible refine Tot.rI (n := ?_) ?_ ?_); rotate_left; exact rfl) | ((with_reducible refine Tot.rB (n := ?_) ?_ ?_); rotate_left; exact rfl) | ((with_reducible refine Tot.rS (n := ?_) ?_ ?_); rotate_left; exact rfl) | ((with_reducible refine Tot.rM (n := ?_) ?_ ?_); rotate_left; exact rfl) | ((with_reducible refine Tot.rO (n := ?_) ?_ ?_); rotate_left; exact rfl) | ((with_reducible refine Tot.dI (n := ?_) ?_ ?_); rotate_left; exact rfl) | ((with_reducible refine Tot.dB (n := ?_) ?_ ?_); rotate_left; exact rfl) | ((with_reducible refine Tot.dS (n := ?_) ?_ ?_); rotate_left; exact rfl) | ((with_reducible refine Tot.dL (n := ?_) (f := ?_) ?_ ?_); rotate_left 2; exact rfl))
    exact .some ⟨_, _, _, rfl, hc, Po.nil.cons.cons.cons.cons.cons.cons, by simp, by simp⟩
  · refine Tot.bind (t_7p hX) ?_
    rintro _ ⟨_, _, rfl⟩
    repeat (first | ((with_reducible refine Tot.rI (n := ?_) ?_ ?_); rotate_left; exact rfl) | ((with_reducible refine Tot.rB (n := ?_) ?_ ?_); rotate_left; exact rfl) | ((with_reducible refine Tot.rS (n := ?_) ?_ ?_); rotate_left; exact rfl) | ((with_reducible refine Tot.rM (n := ?_) ?_ ?_); rotate_left; exact rfl) | ((with_reducible refine Tot.rO (n := ?_) ?_ ?_); rotate_left; exact rfl) | ((with_reducible refine Tot.dI (n := ?_) ?_ ?_); rotate_left; exact rfl) | ((with_reducible refine Tot.dB (n := ?_) ?_ ?_); rotate_left; exact rfl) | ((with_reducible refine Tot.dS (n := ?_) ?_ ?_); rotate_left; exact rfl) | ((with_reducible refine Tot.dL (n := ?_) (f := ?_) ?_ ?_); rotate_left 2; exact rfl))
    refine Tot.bind (t_7p hX) ?_
    rintro _ ⟨_, _, rfl⟩
    repeat (first | ((with_reducible refine Tot.rI (n := ?_) ?_ ?_); rotate_left; exact rfl) | ((with_reducible refine Tot.rB (n := ?_) ?_ ?_); rotate_left; exact rfl) | ((with_reducible refine Tot.rS (n := ?_) ?_ ?_); rotate_left; exact rfl) | ((with_reducible refine Tot.rM (n := ?_) ?_ ?_); rotate_left; exact rfl) | ((with_reducible refine Tot.rO (n := ?_) ?_ ?_); rotate_left; exact rfl) | ((with_reducible refine Tot.dI (n := ?_) ?_ ?_); rotate_left; exact rfl) | ((with_reducible refine Tot.dB (n := ?_) ?_ ?_); rotate_left; exact rfl) | ((with_reducible refine Tot.dS (n := ?_) ?_ ?_); rotate_left; exact rfl) | ((with_reducible refine Tot.dL (n := ?_) (f := ?_) ?_ ?_); rotate_left 2; exact rfl))
    refine Tot.bind (t_7p hX) ?_
    rintro _ ⟨_, _, rfl⟩
    repeat (first | ((with_reducible refine Tot.rI (n := ?_) ?_ ?_); rotate_left; exact rfl) | ((with_reducible refine Tot.rB (n := ?_) ?_ ?_); rotate_left; exact rfl) | ((with_reducible refine Tot.rS (n := ?_) ?_ ?_); rotate_left; exact rfl) | ((with_reducible refine Tot.rM (n := ?_) ?_ ?_); rotate_left; exact rfl) | ((with_reducible refine Tot.rO (n := ?_) ?_ ?_); rotate_left; exact rfl) | ((with_reducible refine Tot.dI (n := ?_) ?_ ?_); rotate_left; exact rfl) | ((with_reducible refine Tot.dB (n := ?_) ?_ ?_); rotate_left; exact rfl) | ((with_reducible refine Tot.dS (n := ?_) ?_ ?_); rotate_left; exact rfl) | ((with_reducible refine Tot.dL (n := ?_) (f := ?_) ?_ ?_); rotate_left 2; exact rfl))
    refine Tot.bind (t_7p hX) ?_
    rintro _ ⟨_, _, rfl⟩
    repeat (first | ((with_reducible refine Tot.rI (n := ?_) ?_ ?_); rotate_left; exact rfl) | ((with_reducible refine Tot.rB (n := ?_) ?_ ?_); rotate_left; exact rfl) | ((with_reducible refine Tot.rS (n := ?_) ?_ ?_); rotate_left; exact rfl) | ((with_reducible refine Tot.rM (n := ?_) ?_ ?_); rotate_left; exact rfl) | ((with_reducible refine Tot.rO (n := ?_) ?_ ?_); rotate_left; exact rfl) | ((with_reducible refine Tot.dI (n := ?_) ?_ ?_); rotate_left; exact rfl) | ((with_reducible refine Tot.dB (n := ?_) ?_ ?_); rotate_left; exact rfl) | ((with_reducible refine Tot.dS (n := ?_) ?_ ?_); rotate_left; exact rfl) | ((with_reducible refine Tot.dL (n := ?_) (f := ?_) ?_ ?_); rotate_left 2; exact rfl))
    exact .some ⟨_, _, _, rfl, hc, Po.nil.cons.cons.cons.cons, by simp, by simp⟩
theorem t_9draw {bs : List Rw} {i h id : Int} (hc : Cu bs i) : Tot (VV 112 [.box [.s false bs, iD i, iD h], .c (iD id)]) fun r => ∃ k q nm l' i' h', r = [iR id, iR k, iR q, sR nm, .own l', .im bs, iR i', iR h'] ∧ Cu bs i' ∧ Po l' ∧ 0 < l'.length ∧ l'.length ≤ 20 ∧ nm.size ≤ 100 := by
  rw [b112 hX, e112]
  refine Tot.bind (t_below hX hc) ?_
  rintro _ ⟨z, i, h, rfl, hc, -⟩
  repeat (first | ((with_reducible refine Tot.rI (n := ?_) ?_ ?_); rotate_left; exact rfl) | ((with_reducible refine Tot.rB (n := ?_) ?_ ?_); rotate_left; exact rfl) | ((with_reducible refine Tot.rS (n := ?_) ?_ ?_); rotate_left; exact rfl) | ((with_reducible refine Tot.rM (n := ?_) ?_ ?_); rotate_left; exact rfl) | ((with_reducible refine Tot.rO (n := ?_) ?_ ?_); rotate_left; exact rfl) | ((with_reducible refine Tot.dI (n := ?_) ?_ ?_); rotate_left; exact rfl) | ((with_reducible refine Tot.dB (n := ?_) ?_ ?_); rotate_left; exact rfl) | ((with_reducible refine Tot.dS (n := ?_) ?_ ?_); rotate_left; exact rfl) | ((with_reducible refine Tot.dL (n := ?_) (f := ?_) ?_ ?_); rotate_left 2; exact rfl))
  refine Tot.bind (t_below hX hc) ?_
  rintro _ ⟨z2, i, h, rfl, hc, -⟩
  repeat (first | ((with_reducible refine Tot.rI (n := ?_) ?_ ?_); rotate_left; exact rfl) | ((with_reducible refine Tot.rB (n := ?_) ?_ ?_); rotate_left; exact rfl) | ((with_reducible refine Tot.rS (n := ?_) ?_ ?_); rotate_left; exact rfl) | ((with_reducible refine Tot.rM (n := ?_) ?_ ?_); rotate_left; exact rfl) | ((with_reducible refine Tot.rO (n := ?_) ?_ ?_); rotate_left; exact rfl) | ((with_reducible refine Tot.dI (n := ?_) ?_ ?_); rotate_left; exact rfl) | ((with_reducible refine Tot.dB (n := ?_) ?_ ?_); rotate_left; exact rfl) | ((with_reducible refine Tot.dS (n := ?_) ?_ ?_); rotate_left; exact rfl) | ((with_reducible refine Tot.dL (n := ?_) (f := ?_) ?_ ?_); rotate_left 2; exact rfl))
  refine Tot.bind (t_9name hX hc) ?_
  rintro _ ⟨nm, i, h, rfl, hc, hn⟩
  repeat (first | ((with_reducible refine Tot.rI (n := ?_) ?_ ?_); rotate_left; exact rfl) | ((with_reducible refine Tot.rB (n := ?_) ?_ ?_); rotate_left; exact rfl) | ((with_reducible refine Tot.rS (n := ?_) ?_ ?_); rotate_left; exact rfl) | ((with_reducible refine Tot.rM (n := ?_) ?_ ?_); rotate_left; exact rfl) | ((with_reducible refine Tot.rO (n := ?_) ?_ ?_); rotate_left; exact rfl) | ((with_reducible refine Tot.dI (n := ?_) ?_ ?_); rotate_left; exact rfl) | ((with_reducible refine Tot.dB (n := ?_) ?_ ?_); rotate_left; exact rfl) | ((with_reducible refine Tot.dS (n := ?_) ?_ ?_); rotate_left; exact rfl) | ((with_reducible refine Tot.dL (n := ?_) (f := ?_) ?_ ?_); rotate_left 2; exact rfl))
  refine Tot.cond (fun _ => ?_) fun _ => Tot.cond (fun _ => ?_) fun _ => ?_
  · refine Tot.bind (t_4draw hX hc) ?_
    rintro _ ⟨x, y, i, h, rfl, hc, -⟩
    repeat (first | ((with_reducible refine Tot.rI (n := ?_) ?_ ?_); rotate_left; exact rfl) | ((with_reducible refine Tot.rB (n := ?_) ?_ ?_); rotate_left; exact rfl) | ((with_reducible refine Tot.rS (n := ?_) ?_ ?_); rotate_left; exact rfl) | ((with_reducible refine Tot.rM (n := ?_) ?_ ?_); rotate_left; exact rfl) | ((with_reducible refine Tot.rO (n := ?_) ?_ ?_); rotate_left; exact rfl) | ((with_reducible refine Tot.dI (n := ?_) ?_ ?_); rotate_left; exact rfl) | ((with_reducible refine Tot.dB (n := ?_) ?_ ?_); rotate_left; exact rfl) | ((with_reducible refine Tot.dS (n := ?_) ?_ ?_); rotate_left; exact rfl) | ((with_reducible refine Tot.dL (n := ?_) (f := ?_) ?_ ?_); rotate_left 2; exact rfl))
    exact .some ⟨_, _, _, _, _, _, rfl, hc, Po.nil.cons, by simp, by simp, hn⟩
  · refine Tot.bind (t_6draw hX hc) ?_
    rintro _ ⟨l, i, h, rfl, hc, hl, h0, h1⟩
    repeat (first | ((with_reducible refine Tot.rI (n := ?_) ?_ ?_); rotate_left; exact rfl) | ((with_reducible refine Tot.rB (n := ?_) ?_ ?_); rotate_left; exact rfl) | ((with_reducible refine Tot.rS (n := ?_) ?_ ?_); rotate_left; exact rfl) | ((with_reducible refine Tot.rM (n := ?_) ?_ ?_); rotate_left; exact rfl) | ((with_reducible refine Tot.rO (n := ?_) ?_ ?_); rotate_left; exact rfl) | ((with_reducible refine Tot.dI (n := ?_) ?_ ?_); rotate_left; exact rfl) | ((with_reducible refine Tot.dB (n := ?_) ?_ ?_); rotate_left; exact rfl) | ((with_reducible refine Tot.dS (n := ?_) ?_ ?_); rotate_left; exact rfl) | ((with_reducible refine Tot.dL (n := ?_) (f := ?_) ?_ ?_); rotate_left 2; exact rfl))
    exact .some ⟨_, _, _, _, _, _, rfl, hc, hl, h0, h1, hn⟩
  · refine Tot.bind (t_7draw hX hc) ?_
    rintro _ ⟨l, i, h, rfl, hc, hl, h0, h1⟩
    repeat (first | ((with_reducible refine Tot.rI (n := ?_) ?_ ?_); rotate_left; exact rfl) | ((with_reducible refine Tot.rB (n := ?_) ?_ ?_); rotate_left; exact rfl) | ((with_reducible refine Tot.rS (n := ?_) ?_ ?_); rotate_left; exact rfl) | ((with_reducible refine Tot.rM (n := ?_) ?_ ?_); rotate_left; exact rfl) | ((with_reducible refine Tot.rO (n := ?_) ?_ ?_); rotate_left; exact rfl) | ((with_reducible refine Tot.dI (n := ?_) ?_ ?_); rotate_left; exact rfl) | ((with_reducible refine Tot.dB (n := ?_) ?_ ?_); rotate_left; exact rfl) | ((with_reducible refine Tot.dS (n := ?_) ?_ ?_); rotate_left; exact rfl) | ((with_reducible refine Tot.dL (n := ?_) (f := ?_) ?_ ?_); rotate_left 2; exact rfl))
    exact .some ⟨_, _, _, _, _, _, rfl, hc, hl, h0, h1, hn⟩
theorem t_6any_loop {bs : List Rw} : ∀ (k : Nat) (i h : Int) (l : List Rw), Cu bs i → Po l → l.length ≤ 30 → 11 - l.length ≤ k → Tot (VP 98 10 (s98_10 l bs i h)) fun r => ∃ l' i' h', r = [.own l', .im bs, iR i', iR h'] ∧ Cu bs i' ∧ Po l' ∧ l'.length ≤ 30
  | 0, i, h, l, hc, hl, h1, hk => by
    rw [p98 hX, e98_10]
    refine Tot.cond (fun hx => ?_) fun hx => ?_
    · simp only [decide_eq_true_eq] at hx; omega
    · exact .some ⟨_, _, _, rfl, hc, hl, h1⟩
  | k + 1, i, h, l, hc, hl, h1, hk => by
    rw [p98 hX, e98_10]
    refine Tot.cond (fun hx => ?_) fun hx => ?_
    · simp only [decide_eq_true_eq] at hx
      refine Tot.chk (by simp only [List.length_cons, List.length_nil]; omega) ?_
      refine t_6any_loop k _ _ _ hc (hl.app (Po.cons Po.nil)) ?_ ?_ <;> (simp only [List.length_append, List.length_cons, List.length_nil]) <;> omega
    · exact .some ⟨_, _, _, rfl, hc, hl, h1⟩
theorem t_6any {bs : List Rw} {i h : Int} (hc : Cu bs i) : Tot (VV 98 [.box [.s false bs, iD i, iD h]]) fun r => ∃ l' i' h', r = [.own l', .im bs, iR i', iR h'] ∧ Cu bs i' ∧ Po l' ∧ l'.length ≤ 30 := by
  rw [b98 hX, e98]
  refine Tot.bind (t_6draw hX hc) ?_
  rintro _ ⟨l, i, h, rfl, hc, hl, h0, h1⟩
  repeat (first | ((with_reducible refine Tot.rI (n := ?_) ?_ ?_); rotate_left; exact rfl) | ((with_reducible refine Tot.rB (n := ?_) ?_ ?_); rotate_left; exact rfl) | ((with_reducible refine Tot.rS (n := ?_) ?_ ?_); rotate_left; exact rfl) | ((with_reducible refine Tot.rM (n := ?_) ?_ ?_); rotate_left; exact rfl) | ((with_reducible refine Tot.rO (n := ?_) ?_ ?_); rotate_left; exact rfl) | ((with_reducible refine Tot.dI (n := ?_) ?_ ?_); rotate_left; exact rfl) | ((with_reducible refine Tot.dB (n := ?_) ?_ ?_); rotate_left; exact rfl) | ((with_reducible refine Tot.dS (n := ?_) ?_ ?_); rotate_left; exact rfl) | ((with_reducible refine Tot.dL (n := ?_) (f := ?_) ?_ ?_); rotate_left 2; exact rfl))
  refine Tot.bind (t_below hX hc) ?_
  rintro _ ⟨z, i, h, rfl, hc, -⟩
  repeat (first | ((with_reducible refine Tot.rI (n := ?_) ?_ ?_); rotate_left; exact rfl) | ((with_reducible refine Tot.rB (n := ?_) ?_ ?_); rotate_left; exact rfl) | ((with_reducible refine Tot.rS (n := ?_) ?_ ?_); rotate_left; exact rfl) | ((with_reducible refine Tot.rM (n := ?_) ?_ ?_); rotate_left; exact rfl) | ((with_reducible refine Tot.rO (n := ?_) ?_ ?_); rotate_left; exact rfl) | ((with_reducible refine Tot.dI (n := ?_) ?_ ?_); rotate_left; exact rfl) | ((with_reducible refine Tot.dB (n := ?_) ?_ ?_); rotate_left; exact rfl) | ((with_reducible refine Tot.dS (n := ?_) ?_ ?_); rotate_left; exact rfl) | ((with_reducible refine Tot.dL (n := ?_) (f := ?_) ?_ ?_); rotate_left 2; exact rfl))
  refine Tot.cond (fun _ => ?_) fun _ => Tot.cond (fun _ => ?_) fun _ => Tot.cond (fun _ => ?_) fun _ => Tot.cond (fun _ => ?_) fun _ => ?_
  · refine Tot.bind (t_4any hX hc) ?_
    rintro _ ⟨x, y, i, h, rfl, hc⟩
    repeat (first | ((with_reducible refine Tot.rI (n := ?_) ?_ ?_); rotate_left; exact rfl) | ((with_reducible refine Tot.rB (n := ?_) ?_ ?_); rotate_left; exact rfl) | ((with_reducible refine Tot.rS (n := ?_) ?_ ?_); rotate_left; exact rfl) | ((with_reducible refine Tot.rM (n := ?_) ?_ ?_); rotate_left; exact rfl) | ((with_reducible refine Tot.rO (n := ?_) ?_ ?_); rotate_left; exact rfl) | ((with_reducible refine Tot.dI (n := ?_) ?_ ?_); rotate_left; exact rfl) | ((with_reducible refine Tot.dB (n := ?_) ?_ ?_); rotate_left; exact rfl) | ((with_reducible refine Tot.dS (n := ?_) ?_ ?_); rotate_left; exact rfl) | ((with_reducible refine Tot.dL (n := ?_) (f := ?_) ?_ ?_); rotate_left 2; exact rfl))
    refine Tot.chk (by omega) (Tot.get (by omega) fun r _ hr => ?_)
    obtain ⟨x', y', rfl⟩ := hl r hr
    refine .some ⟨_, _, _, rfl, hc, ?_, by simp only [List.length_set]; omega⟩
    intro r hr
    rcases List.mem_or_eq_of_mem_set hr with hr | rfl
    · exact hl r hr
    · exact ⟨x, y, rfl⟩
  · rw [w64 (x := (l.length : Int) - 1) (by omega) (by omega)]
    refine Tot.chk (by omega) (Tot.get (by omega) fun r _ hr => ?_)
    obtain ⟨x', y', rfl⟩ := hl r hr
    repeat (first | ((with_reducible refine Tot.rI (n := ?_) ?_ ?_); rotate_left; exact rfl) | ((with_reducible refine Tot.rB (n := ?_) ?_ ?_); rotate_left; exact rfl) | ((with_reducible refine Tot.rS (n := ?_) ?_ ?_); rotate_left; exact rfl) | ((with_reducible refine Tot.rM (n := ?_) ?_ ?_); rotate_left; exact rfl) | ((with_reducible refine Tot.rO (n := ?_) ?_ ?_); rotate_left; exact rfl) | ((with_reducible refine Tot.dI (n := ?_) ?_ ?_); rotate_left; exact rfl) | ((with_reducible refine Tot.dB (n := ?_) ?_ ?_); rotate_left; exact rfl) | ((with_reducible refine Tot.dS (n := ?_) ?_ ?_); rotate_left; exact rfl) | ((with_reducible refine Tot.dL (n := ?_) (f := ?_) ?_ ?_); rotate_left 2; exact rfl))
    refine Tot.chk (by simp only [List.length_cons, List.length_nil]; omega) ?_
    exact .some ⟨_, _, _, rfl, hc, hl.app (Po.cons Po.nil), by simp only [List.length_append, List.length_cons, List.length_nil]; omega⟩
  · refine Tot.chk (by omega) (Tot.chk (by omega) ?_)
    refine .some ⟨_, _, _, rfl, hc, fun r hr => hl r ?_, by simp only [List.length_take, List.length_drop]; omega⟩
    exact List.mem_of_mem_drop (List.mem_of_mem_take hr)
  · exact t_6any_loop hX 11 _ _ _ hc hl (by omega) (by omega)
  · exact .some ⟨_, _, _, rfl, hc, hl, by omega⟩
end
end Go.Proofs.YtoiefmhmohhaeaaGreat.VE
/- The reference's checks: they come out. -/
set_option linter.unusedVariables false
set_option linter.unusedSimpArgs false
namespace Go.Proofs.YtoiefmhmohhaeaaGreat.VE

abbrev TB (x : Option (List RC)) : Prop := Tot x fun r => ∃ b, r = [bR b]
abbrev TN (x : Option (List RC)) : Prop := Tot x fun r => ∃ n, r = [iR n]
/-- Segments, as rows. -/
def Se (l : List Rw) : Prop := ∀ r ∈ l, ∃ x y z u, r = [iD x, iD y, iD z, iD u]
theorem Se.app {l m : List Rw} (h : Se l) (hm : Se m) : Se (l ++ m) := fun r hr => by
  rcases List.mem_append.mp hr with hr | hr
  · exact h r hr
  · exact hm r hr
theorem Se.one {x y z u : Int} : Se [[iD x, iD y, iD z, iD u]] := fun r hr => by
  rw [List.mem_singleton] at hr
  exact ⟨_, _, _, _, hr⟩
theorem Se.nil : Se [] := fun _ h => by cases h
def Ft (r : Rw) : Prop := ∃ i k q nm f p, r = [iD i, iD k, iD q, sD nm, .s f p] ∧ Po p ∧ p.length ≤ 100 ∧ nm.size ≤ 100
/-- Features, as rows. -/
def Fts (l : List Rw) : Prop := ∀ r ∈ l, Ft r
theorem Fts.nil : Fts [] := fun _ h => by cases h
theorem Fts.five {l : List Rw} (h : Fts l) : ∀ r ∈ l, r.length = 5 := fun r hr => by obtain ⟨_, _, _, _, _, _, rfl, _⟩ := h r hr; rfl
theorem Fts.app {l m : List Rw} (h : Fts l) (hm : Fts m) : Fts (l ++ m) := fun r hr => by
  rcases List.mem_append.mp hr with hr | hr
  · exact h r hr
  · exact hm r hr
theorem Fts.sub {l m : List Rw} (h : Fts l) (hm : ∀ r ∈ m, r ∈ l) : Fts m := fun r hr => h r (hm r hr)
theorem Fts.one {r : Rw} (h : Ft r) : Fts [r] := fun r' hr => by
  rw [List.mem_singleton] at hr; subst hr; exact h

section
variable (hX : ExtFin tE)
include hX

theorem s_in {a b c : Int} : TB (VV 154 [.c (iD a), .c (iD b), .c (iD c)]) := by
  rw [b154 hX, e154]
  repeat' first
    | exact Tot.some ⟨_, rfl⟩
    | refine Tot.cond (fun _ => ?_) (fun _ => ?_)
    | (first | ((with_reducible refine Tot.rI (n := ?_) ?_ ?_); rotate_left; exact rfl) | ((with_reducible refine Tot.rB (n := ?_) ?_ ?_); rotate_left; exact rfl) | ((with_reducible refine Tot.rS (n := ?_) ?_ ?_); rotate_left; exact rfl) | ((with_reducible refine Tot.rM (n := ?_) ?_ ?_); rotate_left; exact rfl) | ((with_reducible refine Tot.rO (n := ?_) ?_ ?_); rotate_left; exact rfl) | ((with_reducible refine Tot.dI (n := ?_) ?_ ?_); rotate_left; exact rfl) | ((with_reducible refine Tot.dB (n := ?_) ?_ ?_); rotate_left; exact rfl) | ((with_reducible refine Tot.dS (n := ?_) ?_ ?_); rotate_left; exact rfl) | ((with_reducible refine Tot.dL (n := ?_) (f := ?_) ?_ ?_); rotate_left 2; exact rfl))
theorem s_isname {s : ByteArray} (hs : s.size ≤ 1000000) : TB (VV 212 [.c (sD s)]) := by
  rw [b212 hX, e212]
  suffices h : ∀ (k : Nat) (i : Int), 0 ≤ i → i ≤ s.size → s.size - i ≤ k → TB (VP 212 2 (s212_2 s i)) from h s.size 0 (by omega) (by omega) (by omega)
  intro k
  induction k with
  | zero =>
    intro i h0 h1 hk
    rw [p212 hX, e212_2]
    refine Tot.cond (fun hx => ?_) fun hx => ?_
    · simp only [decide_eq_true_eq] at hx; omega
    · repeat' first
        | exact Tot.some ⟨_, rfl⟩
        | refine Tot.cond (fun _ => ?_) (fun _ => ?_)
        | exact s_in hX
        | (refine Tot.bind (s_in hX) ?_; rintro _ ⟨_, rfl⟩)
        | (first | ((with_reducible refine Tot.rI (n := ?_) ?_ ?_); rotate_left; exact rfl) | ((with_reducible refine Tot.rB (n := ?_) ?_ ?_); rotate_left; exact rfl) | ((with_reducible refine Tot.rS (n := ?_) ?_ ?_); rotate_left; exact rfl) | ((with_reducible refine Tot.rM (n := ?_) ?_ ?_); rotate_left; exact rfl) | ((with_reducible refine Tot.rO (n := ?_) ?_ ?_); rotate_left; exact rfl) | ((with_reducible refine Tot.dI (n := ?_) ?_ ?_); rotate_left; exact rfl) | ((with_reducible refine Tot.dB (n := ?_) ?_ ?_); rotate_left; exact rfl) | ((with_reducible refine Tot.dS (n := ?_) ?_ ?_); rotate_left; exact rfl) | ((with_reducible refine Tot.dL (n := ?_) (f := ?_) ?_ ?_); rotate_left 2; exact rfl))
  | succ k ih =>
    intro i h0 h1 hk
    rw [p212 hX, e212_2]
    refine Tot.cond (fun hx => ?_) fun hx => ?_
    · simp only [decide_eq_true_eq] at hx
      refine Tot.getB h0 hx fun b _ => Tot.cond (fun _ => .some ⟨_, rfl⟩) fun _ => ?_
      refine Tot.getB h0 hx fun b _ => Tot.cond (fun _ => .some ⟨_, rfl⟩) fun _ => ?_
      rw [w64 (x := i + 1) (by omega) (by omega)]
      exact ih _ (by omega) (by omega) (by omega)
    · repeat' first
        | exact Tot.some ⟨_, rfl⟩
        | refine Tot.cond (fun _ => ?_) (fun _ => ?_)
        | exact s_in hX
        | (refine Tot.bind (s_in hX) ?_; rintro _ ⟨_, rfl⟩)
        | (first | ((with_reducible refine Tot.rI (n := ?_) ?_ ?_); rotate_left; exact rfl) | ((with_reducible refine Tot.rB (n := ?_) ?_ ?_); rotate_left; exact rfl) | ((with_reducible refine Tot.rS (n := ?_) ?_ ?_); rotate_left; exact rfl) | ((with_reducible refine Tot.rM (n := ?_) ?_ ?_); rotate_left; exact rfl) | ((with_reducible refine Tot.rO (n := ?_) ?_ ?_); rotate_left; exact rfl) | ((with_reducible refine Tot.dI (n := ?_) ?_ ?_); rotate_left; exact rfl) | ((with_reducible refine Tot.dB (n := ?_) ?_ ?_); rotate_left; exact rfl) | ((with_reducible refine Tot.dS (n := ?_) ?_ ?_); rotate_left; exact rfl) | ((with_reducible refine Tot.dL (n := ?_) (f := ?_) ?_ ?_); rotate_left 2; exact rfl))
theorem s_ispoint {a b : Int} : TB (VV 213 [.agg [iD a, iD b]]) := by
  rw [b213 hX, e213]
  repeat' first
    | exact Tot.some ⟨_, rfl⟩
    | refine Tot.cond (fun _ => ?_) (fun _ => ?_)
    | exact s_in hX
    | (refine Tot.bind (s_in hX) ?_; rintro _ ⟨_, rfl⟩)
    | (first | ((with_reducible refine Tot.rI (n := ?_) ?_ ?_); rotate_left; exact rfl) | ((with_reducible refine Tot.rB (n := ?_) ?_ ?_); rotate_left; exact rfl) | ((with_reducible refine Tot.rS (n := ?_) ?_ ?_); rotate_left; exact rfl) | ((with_reducible refine Tot.rM (n := ?_) ?_ ?_); rotate_left; exact rfl) | ((with_reducible refine Tot.rO (n := ?_) ?_ ?_); rotate_left; exact rfl) | ((with_reducible refine Tot.dI (n := ?_) ?_ ?_); rotate_left; exact rfl) | ((with_reducible refine Tot.dB (n := ?_) ?_ ?_); rotate_left; exact rfl) | ((with_reducible refine Tot.dS (n := ?_) ?_ ?_); rotate_left; exact rfl) | ((with_reducible refine Tot.dL (n := ?_) (f := ?_) ?_ ?_); rotate_left 2; exact rfl))
theorem s_isline {l : List Rw} (hl : Po l) (hn : l.length ≤ 1000) : TB (VV 221 [.c (.s false l)]) := by
  rw [b221 hX, e221]
  suffices h : ∀ (k : Nat) (i : Int), 0 ≤ i → i ≤ l.length → l.length - i ≤ k → TB (VP 221 2 (s221_2 l i)) from h l.length 0 (by omega) (by omega) (by omega)
  intro k
  induction k with
  | zero =>
    intro i h0 h1 hk
    rw [p221 hX, e221_2]
    refine Tot.cond (fun hx => ?_) fun hx => ?_
    · simp only [decide_eq_true_eq] at hx; omega
    · repeat' first
        | exact Tot.some ⟨_, rfl⟩
        | refine Tot.cond (fun _ => ?_) (fun _ => ?_)
        | exact s_in hX
        | (refine Tot.bind (s_in hX) ?_; rintro _ ⟨_, rfl⟩)
        | (first | ((with_reducible refine Tot.rI (n := ?_) ?_ ?_); rotate_left; exact rfl) | ((with_reducible refine Tot.rB (n := ?_) ?_ ?_); rotate_left; exact rfl) | ((with_reducible refine Tot.rS (n := ?_) ?_ ?_); rotate_left; exact rfl) | ((with_reducible refine Tot.rM (n := ?_) ?_ ?_); rotate_left; exact rfl) | ((with_reducible refine Tot.rO (n := ?_) ?_ ?_); rotate_left; exact rfl) | ((with_reducible refine Tot.dI (n := ?_) ?_ ?_); rotate_left; exact rfl) | ((with_reducible refine Tot.dB (n := ?_) ?_ ?_); rotate_left; exact rfl) | ((with_reducible refine Tot.dS (n := ?_) ?_ ?_); rotate_left; exact rfl) | ((with_reducible refine Tot.dL (n := ?_) (f := ?_) ?_ ?_); rotate_left 2; exact rfl))
  | succ k ih =>
    intro i h0 h1 hk
    rw [p221 hX, e221_2]
    refine Tot.cond (fun hx => ?_) fun hx => ?_
    · simp only [decide_eq_true_eq] at hx
      refine Tot.getE h0 hx hl.two fun r _ hr => ?_
      obtain ⟨x, y, rfl⟩ := hl r hr
      repeat (first | ((with_reducible refine Tot.rI (n := ?_) ?_ ?_); rotate_left; exact rfl) | ((with_reducible refine Tot.rB (n := ?_) ?_ ?_); rotate_left; exact rfl) | ((with_reducible refine Tot.rS (n := ?_) ?_ ?_); rotate_left; exact rfl) | ((with_reducible refine Tot.rM (n := ?_) ?_ ?_); rotate_left; exact rfl) | ((with_reducible refine Tot.rO (n := ?_) ?_ ?_); rotate_left; exact rfl) | ((with_reducible refine Tot.dI (n := ?_) ?_ ?_); rotate_left; exact rfl) | ((with_reducible refine Tot.dB (n := ?_) ?_ ?_); rotate_left; exact rfl) | ((with_reducible refine Tot.dS (n := ?_) ?_ ?_); rotate_left; exact rfl) | ((with_reducible refine Tot.dL (n := ?_) (f := ?_) ?_ ?_); rotate_left 2; exact rfl))
      refine Tot.bind (s_ispoint hX) ?_
      rintro _ ⟨b, rfl⟩
      repeat (first | ((with_reducible refine Tot.rI (n := ?_) ?_ ?_); rotate_left; exact rfl) | ((with_reducible refine Tot.rB (n := ?_) ?_ ?_); rotate_left; exact rfl) | ((with_reducible refine Tot.rS (n := ?_) ?_ ?_); rotate_left; exact rfl) | ((with_reducible refine Tot.rM (n := ?_) ?_ ?_); rotate_left; exact rfl) | ((with_reducible refine Tot.rO (n := ?_) ?_ ?_); rotate_left; exact rfl) | ((with_reducible refine Tot.dI (n := ?_) ?_ ?_); rotate_left; exact rfl) | ((with_reducible refine Tot.dB (n := ?_) ?_ ?_); rotate_left; exact rfl) | ((with_reducible refine Tot.dS (n := ?_) ?_ ?_); rotate_left; exact rfl) | ((with_reducible refine Tot.dL (n := ?_) (f := ?_) ?_ ?_); rotate_left 2; exact rfl))
      rw [w64 (x := i + 1) (by omega) (by omega)]
      refine Tot.cond (fun _ => .some ⟨_, rfl⟩) fun _ => ?_
      refine Tot.cond (fun hx2 => ?_) fun _ => ih _ (by omega) (by omega) (by omega)
      simp only [decide_eq_true_eq] at hx2
      rw [w64 (x := i - 1) (by omega) (by omega)]
      refine Tot.getE (by omega) (by omega) hl.two fun r _ hr => ?_
      obtain ⟨x, y, rfl⟩ := hl r hr
      repeat (first | ((with_reducible refine Tot.rI (n := ?_) ?_ ?_); rotate_left; exact rfl) | ((with_reducible refine Tot.rB (n := ?_) ?_ ?_); rotate_left; exact rfl) | ((with_reducible refine Tot.rS (n := ?_) ?_ ?_); rotate_left; exact rfl) | ((with_reducible refine Tot.rM (n := ?_) ?_ ?_); rotate_left; exact rfl) | ((with_reducible refine Tot.rO (n := ?_) ?_ ?_); rotate_left; exact rfl) | ((with_reducible refine Tot.dI (n := ?_) ?_ ?_); rotate_left; exact rfl) | ((with_reducible refine Tot.dB (n := ?_) ?_ ?_); rotate_left; exact rfl) | ((with_reducible refine Tot.dS (n := ?_) ?_ ?_); rotate_left; exact rfl) | ((with_reducible refine Tot.dL (n := ?_) (f := ?_) ?_ ?_); rotate_left 2; exact rfl))
      refine Tot.getE h0 hx hl.two fun r _ hr => ?_
      obtain ⟨x, y, rfl⟩ := hl r hr
      repeat (first | ((with_reducible refine Tot.rI (n := ?_) ?_ ?_); rotate_left; exact rfl) | ((with_reducible refine Tot.rB (n := ?_) ?_ ?_); rotate_left; exact rfl) | ((with_reducible refine Tot.rS (n := ?_) ?_ ?_); rotate_left; exact rfl) | ((with_reducible refine Tot.rM (n := ?_) ?_ ?_); rotate_left; exact rfl) | ((with_reducible refine Tot.rO (n := ?_) ?_ ?_); rotate_left; exact rfl) | ((with_reducible refine Tot.dI (n := ?_) ?_ ?_); rotate_left; exact rfl) | ((with_reducible refine Tot.dB (n := ?_) ?_ ?_); rotate_left; exact rfl) | ((with_reducible refine Tot.dS (n := ?_) ?_ ?_); rotate_left; exact rfl) | ((with_reducible refine Tot.dL (n := ?_) (f := ?_) ?_ ?_); rotate_left 2; exact rfl))
      exact Tot.cond (fun _ => .some ⟨_, rfl⟩) fun _ => ih _ (by omega) (by omega) (by omega)
    · repeat' first
        | exact Tot.some ⟨_, rfl⟩
        | refine Tot.cond (fun _ => ?_) (fun _ => ?_)
        | exact s_in hX
        | (refine Tot.bind (s_in hX) ?_; rintro _ ⟨_, rfl⟩)
        | (first | ((with_reducible refine Tot.rI (n := ?_) ?_ ?_); rotate_left; exact rfl) | ((with_reducible refine Tot.rB (n := ?_) ?_ ?_); rotate_left; exact rfl) | ((with_reducible refine Tot.rS (n := ?_) ?_ ?_); rotate_left; exact rfl) | ((with_reducible refine Tot.rM (n := ?_) ?_ ?_); rotate_left; exact rfl) | ((with_reducible refine Tot.rO (n := ?_) ?_ ?_); rotate_left; exact rfl) | ((with_reducible refine Tot.dI (n := ?_) ?_ ?_); rotate_left; exact rfl) | ((with_reducible refine Tot.dB (n := ?_) ?_ ?_); rotate_left; exact rfl) | ((with_reducible refine Tot.dS (n := ?_) ?_ ?_); rotate_left; exact rfl) | ((with_reducible refine Tot.dL (n := ?_) (f := ?_) ?_ ?_); rotate_left 2; exact rfl))
theorem s_segs {l : List Rw} (hl : Po l) (hn : l.length ≤ 1000) : Tot (VV 219 [.c (.s false l)]) fun r => ∃ m, r = [.own m] ∧ Se m ∧ m.length ≤ l.length := by
  rw [b219 hX, e219]
  suffices h : ∀ (k : Nat) (i : Int) (m : List Rw), 1 ≤ i → Se m → (m.length + 1 : Int) = i → m.length ≤ l.length → l.length - i ≤ k → Tot (VP 219 3 (s219_3 l i m)) fun r => ∃ m, r = [.own m] ∧ Se m ∧ m.length ≤ l.length from h l.length 1 [] (by omega) Se.nil (by simp) (by simp) (by omega)
  intro k
  induction k with
  | zero =>
    intro i m h0 hm h1 h2 hk
    rw [p219 hX, e219_3]
    refine Tot.cond (fun hx => ?_) fun hx => .some ⟨_, rfl, hm, h2⟩
    simp only [decide_eq_true_eq] at hx; omega
  | succ k ih =>
    intro i m h0 hm h1 h2 hk
    rw [p219 hX, e219_3]
    refine Tot.cond (fun hx => ?_) fun hx => .some ⟨_, rfl, hm, h2⟩
    simp only [decide_eq_true_eq] at hx
    refine Tot.bind (s_isline hX hl hn) ?_
    rintro _ ⟨b, rfl⟩
    repeat (first | ((with_reducible refine Tot.rI (n := ?_) ?_ ?_); rotate_left; exact rfl) | ((with_reducible refine Tot.rB (n := ?_) ?_ ?_); rotate_left; exact rfl) | ((with_reducible refine Tot.rS (n := ?_) ?_ ?_); rotate_left; exact rfl) | ((with_reducible refine Tot.rM (n := ?_) ?_ ?_); rotate_left; exact rfl) | ((with_reducible refine Tot.rO (n := ?_) ?_ ?_); rotate_left; exact rfl) | ((with_reducible refine Tot.dI (n := ?_) ?_ ?_); rotate_left; exact rfl) | ((with_reducible refine Tot.dB (n := ?_) ?_ ?_); rotate_left; exact rfl) | ((with_reducible refine Tot.dS (n := ?_) ?_ ?_); rotate_left; exact rfl) | ((with_reducible refine Tot.dL (n := ?_) (f := ?_) ?_ ?_); rotate_left 2; exact rfl))
    refine Tot.cond (fun _ => ?_) fun _ => .some ⟨_, rfl, hm, h2⟩
    rw [p219 hX, e219_5]
    rw [w64 (x := i - 1) (by omega) (by omega), w64 (x := i + 1) (by omega) (by omega)]
    refine Tot.getE (by omega) (by omega) hl.two fun r _ hr => ?_
    obtain ⟨x, y, rfl⟩ := hl r hr
    repeat (first | ((with_reducible refine Tot.rI (n := ?_) ?_ ?_); rotate_left; exact rfl) | ((with_reducible refine Tot.rB (n := ?_) ?_ ?_); rotate_left; exact rfl) | ((with_reducible refine Tot.rS (n := ?_) ?_ ?_); rotate_left; exact rfl) | ((with_reducible refine Tot.rM (n := ?_) ?_ ?_); rotate_left; exact rfl) | ((with_reducible refine Tot.rO (n := ?_) ?_ ?_); rotate_left; exact rfl) | ((with_reducible refine Tot.dI (n := ?_) ?_ ?_); rotate_left; exact rfl) | ((with_reducible refine Tot.dB (n := ?_) ?_ ?_); rotate_left; exact rfl) | ((with_reducible refine Tot.dS (n := ?_) ?_ ?_); rotate_left; exact rfl) | ((with_reducible refine Tot.dL (n := ?_) (f := ?_) ?_ ?_); rotate_left 2; exact rfl))
    refine Tot.getE (by omega) hx hl.two fun r _ hr => ?_
    obtain ⟨x, y, rfl⟩ := hl r hr
    repeat (first | ((with_reducible refine Tot.rI (n := ?_) ?_ ?_); rotate_left; exact rfl) | ((with_reducible refine Tot.rB (n := ?_) ?_ ?_); rotate_left; exact rfl) | ((with_reducible refine Tot.rS (n := ?_) ?_ ?_); rotate_left; exact rfl) | ((with_reducible refine Tot.rM (n := ?_) ?_ ?_); rotate_left; exact rfl) | ((with_reducible refine Tot.rO (n := ?_) ?_ ?_); rotate_left; exact rfl) | ((with_reducible refine Tot.dI (n := ?_) ?_ ?_); rotate_left; exact rfl) | ((with_reducible refine Tot.dB (n := ?_) ?_ ?_); rotate_left; exact rfl) | ((with_reducible refine Tot.dS (n := ?_) ?_ ?_); rotate_left; exact rfl) | ((with_reducible refine Tot.dL (n := ?_) (f := ?_) ?_ ?_); rotate_left 2; exact rfl))
    refine Tot.chk (by simp only [List.length_cons, List.length_nil]; omega) ?_
    refine ih _ _ ?_ (hm.app Se.one) ?_ ?_ ?_ <;> (try simp only [List.length_append, List.length_cons, List.length_nil]) <;> omega
theorem s_isseg {a b c d : Int} : TB (VV 223 [.agg [iD a, iD b, iD c, iD d]]) := by
  rw [b223 hX, e223]
  repeat' first
    | exact Tot.some ⟨_, rfl⟩
    | refine Tot.cond (fun _ => ?_) (fun _ => ?_)
    | exact s_ispoint hX
    | (refine Tot.bind (s_ispoint hX) ?_; rintro _ ⟨_, rfl⟩)
    | (first | ((with_reducible refine Tot.rI (n := ?_) ?_ ?_); rotate_left; exact rfl) | ((with_reducible refine Tot.rB (n := ?_) ?_ ?_); rotate_left; exact rfl) | ((with_reducible refine Tot.rS (n := ?_) ?_ ?_); rotate_left; exact rfl) | ((with_reducible refine Tot.rM (n := ?_) ?_ ?_); rotate_left; exact rfl) | ((with_reducible refine Tot.rO (n := ?_) ?_ ?_); rotate_left; exact rfl) | ((with_reducible refine Tot.dI (n := ?_) ?_ ?_); rotate_left; exact rfl) | ((with_reducible refine Tot.dB (n := ?_) ?_ ?_); rotate_left; exact rfl) | ((with_reducible refine Tot.dS (n := ?_) ?_ ?_); rotate_left; exact rfl) | ((with_reducible refine Tot.dL (n := ?_) (f := ?_) ?_ ?_); rotate_left 2; exact rfl))
theorem s_max {a b : Int} : TN (VV 225 [.c (iD a), .c (iD b)]) := by
  rw [b225 hX, e225]
  repeat' first
    | exact Tot.some ⟨_, rfl⟩
    | refine Tot.cond (fun _ => ?_) (fun _ => ?_)
    | (first | ((with_reducible refine Tot.rI (n := ?_) ?_ ?_); rotate_left; exact rfl) | ((with_reducible refine Tot.rB (n := ?_) ?_ ?_); rotate_left; exact rfl) | ((with_reducible refine Tot.rS (n := ?_) ?_ ?_); rotate_left; exact rfl) | ((with_reducible refine Tot.rM (n := ?_) ?_ ?_); rotate_left; exact rfl) | ((with_reducible refine Tot.rO (n := ?_) ?_ ?_); rotate_left; exact rfl) | ((with_reducible refine Tot.dI (n := ?_) ?_ ?_); rotate_left; exact rfl) | ((with_reducible refine Tot.dB (n := ?_) ?_ ?_); rotate_left; exact rfl) | ((with_reducible refine Tot.dS (n := ?_) ?_ ?_); rotate_left; exact rfl) | ((with_reducible refine Tot.dL (n := ?_) (f := ?_) ?_ ?_); rotate_left 2; exact rfl))
theorem s_cross {a b c d e f : Int} : TN (VV 229 [.agg [iD a, iD b], .agg [iD c, iD d], .agg [iD e, iD f]]) := by
  rw [b229 hX, e229]
  repeat' first
    | exact Tot.some ⟨_, rfl⟩
    | refine Tot.cond (fun _ => ?_) (fun _ => ?_)
    | (first | ((with_reducible refine Tot.rI (n := ?_) ?_ ?_); rotate_left; exact rfl) | ((with_reducible refine Tot.rB (n := ?_) ?_ ?_); rotate_left; exact rfl) | ((with_reducible refine Tot.rS (n := ?_) ?_ ?_); rotate_left; exact rfl) | ((with_reducible refine Tot.rM (n := ?_) ?_ ?_); rotate_left; exact rfl) | ((with_reducible refine Tot.rO (n := ?_) ?_ ?_); rotate_left; exact rfl) | ((with_reducible refine Tot.dI (n := ?_) ?_ ?_); rotate_left; exact rfl) | ((with_reducible refine Tot.dB (n := ?_) ?_ ?_); rotate_left; exact rfl) | ((with_reducible refine Tot.dS (n := ?_) ?_ ?_); rotate_left; exact rfl) | ((with_reducible refine Tot.dL (n := ?_) (f := ?_) ?_ ?_); rotate_left 2; exact rfl))
theorem s_ison {a b c d e f : Int} : TB (VV 228 [.agg [iD a, iD b, iD c, iD d], .agg [iD e, iD f]]) := by
  rw [b228 hX, e228]
  repeat' first
    | exact Tot.some ⟨_, rfl⟩
    | refine Tot.cond (fun _ => ?_) (fun _ => ?_)
    | exact s_isseg hX
    | (refine Tot.bind (s_isseg hX) ?_; rintro _ ⟨_, rfl⟩)
    | exact s_ispoint hX
    | (refine Tot.bind (s_ispoint hX) ?_; rintro _ ⟨_, rfl⟩)
    | exact s_cross hX
    | (refine Tot.bind (s_cross hX) ?_; rintro _ ⟨_, rfl⟩)
    | exact t_min hX
    | (refine Tot.bind (t_min hX) ?_; rintro _ ⟨_, rfl⟩)
    | exact s_max hX
    | (refine Tot.bind (s_max hX) ?_; rintro _ ⟨_, rfl⟩)
    | exact s_in hX
    | (refine Tot.bind (s_in hX) ?_; rintro _ ⟨_, rfl⟩)
    | (first | ((with_reducible refine Tot.rI (n := ?_) ?_ ?_); rotate_left; exact rfl) | ((with_reducible refine Tot.rB (n := ?_) ?_ ?_); rotate_left; exact rfl) | ((with_reducible refine Tot.rS (n := ?_) ?_ ?_); rotate_left; exact rfl) | ((with_reducible refine Tot.rM (n := ?_) ?_ ?_); rotate_left; exact rfl) | ((with_reducible refine Tot.rO (n := ?_) ?_ ?_); rotate_left; exact rfl) | ((with_reducible refine Tot.dI (n := ?_) ?_ ?_); rotate_left; exact rfl) | ((with_reducible refine Tot.dB (n := ?_) ?_ ?_); rotate_left; exact rfl) | ((with_reducible refine Tot.dS (n := ?_) ?_ ?_); rotate_left; exact rfl) | ((with_reducible refine Tot.dL (n := ?_) (f := ?_) ?_ ?_); rotate_left 2; exact rfl))
theorem s_side {a b c d e f : Int} : TN (VV 227 [.agg [iD a, iD b], .agg [iD c, iD d], .agg [iD e, iD f]]) := by
  rw [b227 hX, e227]
  have h3 : TN (VP 227 3 (s227_3 a b c d e f)) := by
    rw [p227 hX, e227_3]
    repeat' first
      | exact Tot.some ⟨_, rfl⟩
      | refine Tot.cond (fun _ => ?_) (fun _ => ?_)
      | exact s_cross hX
      | (refine Tot.bind (s_cross hX) ?_; rintro _ ⟨_, rfl⟩)
      | (first | ((with_reducible refine Tot.rI (n := ?_) ?_ ?_); rotate_left; exact rfl) | ((with_reducible refine Tot.rB (n := ?_) ?_ ?_); rotate_left; exact rfl) | ((with_reducible refine Tot.rS (n := ?_) ?_ ?_); rotate_left; exact rfl) | ((with_reducible refine Tot.rM (n := ?_) ?_ ?_); rotate_left; exact rfl) | ((with_reducible refine Tot.rO (n := ?_) ?_ ?_); rotate_left; exact rfl) | ((with_reducible refine Tot.dI (n := ?_) ?_ ?_); rotate_left; exact rfl) | ((with_reducible refine Tot.dB (n := ?_) ?_ ?_); rotate_left; exact rfl) | ((with_reducible refine Tot.dS (n := ?_) ?_ ?_); rotate_left; exact rfl) | ((with_reducible refine Tot.dL (n := ?_) (f := ?_) ?_ ?_); rotate_left 2; exact rfl))
  repeat' first
    | exact Tot.some ⟨_, rfl⟩
    | refine Tot.cond (fun _ => ?_) (fun _ => ?_)
    | exact s_ispoint hX
    | (refine Tot.bind (s_ispoint hX) ?_; rintro _ ⟨_, rfl⟩)
    | exact h3
    | (refine Tot.bind (h3) ?_; rintro _ ⟨_, rfl⟩)
    | (first | ((with_reducible refine Tot.rI (n := ?_) ?_ ?_); rotate_left; exact rfl) | ((with_reducible refine Tot.rB (n := ?_) ?_ ?_); rotate_left; exact rfl) | ((with_reducible refine Tot.rS (n := ?_) ?_ ?_); rotate_left; exact rfl) | ((with_reducible refine Tot.rM (n := ?_) ?_ ?_); rotate_left; exact rfl) | ((with_reducible refine Tot.rO (n := ?_) ?_ ?_); rotate_left; exact rfl) | ((with_reducible refine Tot.dI (n := ?_) ?_ ?_); rotate_left; exact rfl) | ((with_reducible refine Tot.dB (n := ?_) ?_ ?_); rotate_left; exact rfl) | ((with_reducible refine Tot.dS (n := ?_) ?_ ?_); rotate_left; exact rfl) | ((with_reducible refine Tot.dL (n := ?_) (f := ?_) ?_ ?_); rotate_left 2; exact rfl))
theorem s_shared {a b c d e f g h : Int} : TN (VV 226 [.agg [iD a, iD b, iD c, iD d], .agg [iD e, iD f, iD g, iD h]]) := by
  rw [b226 hX, e226]
  suffices hh : ∀ (k : Nat) (i : Int) (l m : List Rw), 0 ≤ i → i ≤ 4 → 4 - i ≤ k → l.length ≤ i → Po l → Po m → m.length = 4 → TN (VP 226 4 (s226_4 i a b c d e f g h l m)) from hh 4 0 [] _ (by omega) (by omega) (by omega) (by simp) Po.nil Po.nil.cons.cons.cons.cons rfl
  intro k
  induction k with
  | zero =>
    intro i l m h0 h1 hk hl hp hm h4
    rw [p226 hX, e226_4]
    refine Tot.cond (fun hx => ?_) fun hx => .some ⟨_, rfl⟩
    simp only [decide_eq_true_eq] at hx; omega
  | succ k ih =>
    intro i l m h0 h1 hk hl hp hm h4
    have inner : i < 4 → ∀ (k : Nat) (bb : Bool) (j : Int), 0 ≤ j → j ≤ l.length → l.length - j ≤ k → TN (VP 226 8 (s226_8 i bb j a b c d e f g h l m)) := by
      intro h3 k2
      induction k2 with
      | zero =>
        intro bb j j0 j1 jk
        rw [p226 hX, e226_8]
        rw [w64 (x := i + 1) (by omega) (by omega)]
        refine Tot.cond (fun hx => ?_) fun hx => Tot.cond (fun _ => ?_) fun _ => ?_
        · simp only [decide_eq_true_eq] at hx; omega
        · refine Tot.chk (by omega) (Tot.get (by omega) fun r _ hr => ?_)
          obtain ⟨x, y, rfl⟩ := hm r hr
          repeat (first | ((with_reducible refine Tot.rI (n := ?_) ?_ ?_); rotate_left; exact rfl) | ((with_reducible refine Tot.rB (n := ?_) ?_ ?_); rotate_left; exact rfl) | ((with_reducible refine Tot.rS (n := ?_) ?_ ?_); rotate_left; exact rfl) | ((with_reducible refine Tot.rM (n := ?_) ?_ ?_); rotate_left; exact rfl) | ((with_reducible refine Tot.rO (n := ?_) ?_ ?_); rotate_left; exact rfl) | ((with_reducible refine Tot.dI (n := ?_) ?_ ?_); rotate_left; exact rfl) | ((with_reducible refine Tot.dB (n := ?_) ?_ ?_); rotate_left; exact rfl) | ((with_reducible refine Tot.dS (n := ?_) ?_ ?_); rotate_left; exact rfl) | ((with_reducible refine Tot.dL (n := ?_) (f := ?_) ?_ ?_); rotate_left 2; exact rfl))
          refine Tot.chk (by simp only [List.length_cons, List.length_nil]; omega) ?_
          exact ih _ _ _ (by omega) (by omega) (by omega) (by simp only [List.length_append, List.length_cons, List.length_nil]; omega) (hp.app Po.nil.cons) hm h4
        · exact ih _ _ _ (by omega) (by omega) (by omega) (by omega) hp hm h4
      | succ k2 ih2 =>
        intro bb j j0 j1 jk
        rw [p226 hX, e226_8]
        rw [w64 (x := i + 1) (by omega) (by omega)]
        refine Tot.cond (fun hx => Tot.cond (fun _ => ?_) fun _ => ?_) fun hx => Tot.cond (fun _ => ?_) fun _ => ?_
        · simp only [decide_eq_true_eq] at hx
          rw [w64 (x := j + 1) (by omega) (by omega)]
          refine Tot.chk (by omega) (Tot.get (by omega) fun r _ hr => ?_)
          obtain ⟨x, y, rfl⟩ := hp r hr
          repeat (first | ((with_reducible refine Tot.rI (n := ?_) ?_ ?_); rotate_left; exact rfl) | ((with_reducible refine Tot.rB (n := ?_) ?_ ?_); rotate_left; exact rfl) | ((with_reducible refine Tot.rS (n := ?_) ?_ ?_); rotate_left; exact rfl) | ((with_reducible refine Tot.rM (n := ?_) ?_ ?_); rotate_left; exact rfl) | ((with_reducible refine Tot.rO (n := ?_) ?_ ?_); rotate_left; exact rfl) | ((with_reducible refine Tot.dI (n := ?_) ?_ ?_); rotate_left; exact rfl) | ((with_reducible refine Tot.dB (n := ?_) ?_ ?_); rotate_left; exact rfl) | ((with_reducible refine Tot.dS (n := ?_) ?_ ?_); rotate_left; exact rfl) | ((with_reducible refine Tot.dL (n := ?_) (f := ?_) ?_ ?_); rotate_left 2; exact rfl))
          refine Tot.chk (by omega) (Tot.get (by omega) fun r _ hr => ?_)
          obtain ⟨x, y, rfl⟩ := hm r hr
          repeat (first | ((with_reducible refine Tot.rI (n := ?_) ?_ ?_); rotate_left; exact rfl) | ((with_reducible refine Tot.rB (n := ?_) ?_ ?_); rotate_left; exact rfl) | ((with_reducible refine Tot.rS (n := ?_) ?_ ?_); rotate_left; exact rfl) | ((with_reducible refine Tot.rM (n := ?_) ?_ ?_); rotate_left; exact rfl) | ((with_reducible refine Tot.rO (n := ?_) ?_ ?_); rotate_left; exact rfl) | ((with_reducible refine Tot.dI (n := ?_) ?_ ?_); rotate_left; exact rfl) | ((with_reducible refine Tot.dB (n := ?_) ?_ ?_); rotate_left; exact rfl) | ((with_reducible refine Tot.dS (n := ?_) ?_ ?_); rotate_left; exact rfl) | ((with_reducible refine Tot.dL (n := ?_) (f := ?_) ?_ ?_); rotate_left 2; exact rfl))
          exact ih2 _ _ (by omega) (by omega) (by omega)
        · simp only [decide_eq_true_eq] at hx
          rw [w64 (x := j + 1) (by omega) (by omega)]
          exact ih2 _ _ (by omega) (by omega) (by omega)
        · refine Tot.chk (by omega) (Tot.get (by omega) fun r _ hr => ?_)
          obtain ⟨x, y, rfl⟩ := hm r hr
          repeat (first | ((with_reducible refine Tot.rI (n := ?_) ?_ ?_); rotate_left; exact rfl) | ((with_reducible refine Tot.rB (n := ?_) ?_ ?_); rotate_left; exact rfl) | ((with_reducible refine Tot.rS (n := ?_) ?_ ?_); rotate_left; exact rfl) | ((with_reducible refine Tot.rM (n := ?_) ?_ ?_); rotate_left; exact rfl) | ((with_reducible refine Tot.rO (n := ?_) ?_ ?_); rotate_left; exact rfl) | ((with_reducible refine Tot.dI (n := ?_) ?_ ?_); rotate_left; exact rfl) | ((with_reducible refine Tot.dB (n := ?_) ?_ ?_); rotate_left; exact rfl) | ((with_reducible refine Tot.dS (n := ?_) ?_ ?_); rotate_left; exact rfl) | ((with_reducible refine Tot.dL (n := ?_) (f := ?_) ?_ ?_); rotate_left 2; exact rfl))
          refine Tot.chk (by simp only [List.length_cons, List.length_nil]; omega) ?_
          exact ih _ _ _ (by omega) (by omega) (by omega) (by simp only [List.length_append, List.length_cons, List.length_nil]; omega) (hp.app Po.nil.cons) hm h4
        · exact ih _ _ _ (by omega) (by omega) (by omega) (by omega) hp hm h4
    rw [p226 hX, e226_4]
    refine Tot.cond (fun hx => ?_) fun hx => .some ⟨_, rfl⟩
    simp only [decide_eq_true_eq] at hx
    have inn := fun bb => inner hx l.length bb 0 (by omega) (by omega) (by omega)
    refine Tot.cond (fun _ => ?_) fun _ => Tot.cond (fun _ => ?_) fun _ => inn _
    · refine Tot.chk (by omega) (Tot.get (by omega) fun r _ hr => ?_)
      obtain ⟨x, y, rfl⟩ := hm r hr
      repeat (first | ((with_reducible refine Tot.rI (n := ?_) ?_ ?_); rotate_left; exact rfl) | ((with_reducible refine Tot.rB (n := ?_) ?_ ?_); rotate_left; exact rfl) | ((with_reducible refine Tot.rS (n := ?_) ?_ ?_); rotate_left; exact rfl) | ((with_reducible refine Tot.rM (n := ?_) ?_ ?_); rotate_left; exact rfl) | ((with_reducible refine Tot.rO (n := ?_) ?_ ?_); rotate_left; exact rfl) | ((with_reducible refine Tot.dI (n := ?_) ?_ ?_); rotate_left; exact rfl) | ((with_reducible refine Tot.dB (n := ?_) ?_ ?_); rotate_left; exact rfl) | ((with_reducible refine Tot.dS (n := ?_) ?_ ?_); rotate_left; exact rfl) | ((with_reducible refine Tot.dL (n := ?_) (f := ?_) ?_ ?_); rotate_left 2; exact rfl))
      refine Tot.bind (s_ison hX) ?_
      rintro _ ⟨_, rfl⟩
      repeat (first | ((with_reducible refine Tot.rI (n := ?_) ?_ ?_); rotate_left; exact rfl) | ((with_reducible refine Tot.rB (n := ?_) ?_ ?_); rotate_left; exact rfl) | ((with_reducible refine Tot.rS (n := ?_) ?_ ?_); rotate_left; exact rfl) | ((with_reducible refine Tot.rM (n := ?_) ?_ ?_); rotate_left; exact rfl) | ((with_reducible refine Tot.rO (n := ?_) ?_ ?_); rotate_left; exact rfl) | ((with_reducible refine Tot.dI (n := ?_) ?_ ?_); rotate_left; exact rfl) | ((with_reducible refine Tot.dB (n := ?_) ?_ ?_); rotate_left; exact rfl) | ((with_reducible refine Tot.dS (n := ?_) ?_ ?_); rotate_left; exact rfl) | ((with_reducible refine Tot.dL (n := ?_) (f := ?_) ?_ ?_); rotate_left 2; exact rfl))
      refine Tot.cond (fun _ => inn _) fun _ => Tot.cond (fun _ => ?_) fun _ => inn _
      refine Tot.chk (by omega) (Tot.get (by omega) fun r _ hr => ?_)
      obtain ⟨x, y, rfl⟩ := hm r hr
      repeat (first | ((with_reducible refine Tot.rI (n := ?_) ?_ ?_); rotate_left; exact rfl) | ((with_reducible refine Tot.rB (n := ?_) ?_ ?_); rotate_left; exact rfl) | ((with_reducible refine Tot.rS (n := ?_) ?_ ?_); rotate_left; exact rfl) | ((with_reducible refine Tot.rM (n := ?_) ?_ ?_); rotate_left; exact rfl) | ((with_reducible refine Tot.rO (n := ?_) ?_ ?_); rotate_left; exact rfl) | ((with_reducible refine Tot.dI (n := ?_) ?_ ?_); rotate_left; exact rfl) | ((with_reducible refine Tot.dB (n := ?_) ?_ ?_); rotate_left; exact rfl) | ((with_reducible refine Tot.dS (n := ?_) ?_ ?_); rotate_left; exact rfl) | ((with_reducible refine Tot.dL (n := ?_) (f := ?_) ?_ ?_); rotate_left 2; exact rfl))
      refine Tot.bind (s_ison hX) ?_
      rintro _ ⟨_, rfl⟩
      repeat (first | ((with_reducible refine Tot.rI (n := ?_) ?_ ?_); rotate_left; exact rfl) | ((with_reducible refine Tot.rB (n := ?_) ?_ ?_); rotate_left; exact rfl) | ((with_reducible refine Tot.rS (n := ?_) ?_ ?_); rotate_left; exact rfl) | ((with_reducible refine Tot.rM (n := ?_) ?_ ?_); rotate_left; exact rfl) | ((with_reducible refine Tot.rO (n := ?_) ?_ ?_); rotate_left; exact rfl) | ((with_reducible refine Tot.dI (n := ?_) ?_ ?_); rotate_left; exact rfl) | ((with_reducible refine Tot.dB (n := ?_) ?_ ?_); rotate_left; exact rfl) | ((with_reducible refine Tot.dS (n := ?_) ?_ ?_); rotate_left; exact rfl) | ((with_reducible refine Tot.dL (n := ?_) (f := ?_) ?_ ?_); rotate_left 2; exact rfl))
      exact inn _
    · refine Tot.chk (by omega) (Tot.get (by omega) fun r _ hr => ?_)
      obtain ⟨x, y, rfl⟩ := hm r hr
      repeat (first | ((with_reducible refine Tot.rI (n := ?_) ?_ ?_); rotate_left; exact rfl) | ((with_reducible refine Tot.rB (n := ?_) ?_ ?_); rotate_left; exact rfl) | ((with_reducible refine Tot.rS (n := ?_) ?_ ?_); rotate_left; exact rfl) | ((with_reducible refine Tot.rM (n := ?_) ?_ ?_); rotate_left; exact rfl) | ((with_reducible refine Tot.rO (n := ?_) ?_ ?_); rotate_left; exact rfl) | ((with_reducible refine Tot.dI (n := ?_) ?_ ?_); rotate_left; exact rfl) | ((with_reducible refine Tot.dB (n := ?_) ?_ ?_); rotate_left; exact rfl) | ((with_reducible refine Tot.dS (n := ?_) ?_ ?_); rotate_left; exact rfl) | ((with_reducible refine Tot.dL (n := ?_) (f := ?_) ?_ ?_); rotate_left 2; exact rfl))
      refine Tot.bind (s_ison hX) ?_
      rintro _ ⟨_, rfl⟩
      repeat (first | ((with_reducible refine Tot.rI (n := ?_) ?_ ?_); rotate_left; exact rfl) | ((with_reducible refine Tot.rB (n := ?_) ?_ ?_); rotate_left; exact rfl) | ((with_reducible refine Tot.rS (n := ?_) ?_ ?_); rotate_left; exact rfl) | ((with_reducible refine Tot.rM (n := ?_) ?_ ?_); rotate_left; exact rfl) | ((with_reducible refine Tot.rO (n := ?_) ?_ ?_); rotate_left; exact rfl) | ((with_reducible refine Tot.dI (n := ?_) ?_ ?_); rotate_left; exact rfl) | ((with_reducible refine Tot.dB (n := ?_) ?_ ?_); rotate_left; exact rfl) | ((with_reducible refine Tot.dS (n := ?_) ?_ ?_); rotate_left; exact rfl) | ((with_reducible refine Tot.dL (n := ?_) (f := ?_) ?_ ?_); rotate_left 2; exact rfl))
      exact inn _
theorem s_howmeet {a b c d e f g h : Int} : TN (VV 220 [.agg [iD a, iD b, iD c, iD d], .agg [iD e, iD f, iD g, iD h]]) := by
  rw [b220 hX, e220]
  have h5 : TN (VP 220 5 (s220_5 a b c d e f g h)) := by
    rw [p220 hX, e220_5]
    repeat' first
      | exact Tot.some ⟨_, rfl⟩
      | refine Tot.cond (fun _ => ?_) (fun _ => ?_)
      | exact s_shared hX
      | (refine Tot.bind (s_shared hX) ?_; rintro _ ⟨_, rfl⟩)
      | exact s_side hX
      | (refine Tot.bind (s_side hX) ?_; rintro _ ⟨_, rfl⟩)
      | (first | ((with_reducible refine Tot.rI (n := ?_) ?_ ?_); rotate_left; exact rfl) | ((with_reducible refine Tot.rB (n := ?_) ?_ ?_); rotate_left; exact rfl) | ((with_reducible refine Tot.rS (n := ?_) ?_ ?_); rotate_left; exact rfl) | ((with_reducible refine Tot.rM (n := ?_) ?_ ?_); rotate_left; exact rfl) | ((with_reducible refine Tot.rO (n := ?_) ?_ ?_); rotate_left; exact rfl) | ((with_reducible refine Tot.dI (n := ?_) ?_ ?_); rotate_left; exact rfl) | ((with_reducible refine Tot.dB (n := ?_) ?_ ?_); rotate_left; exact rfl) | ((with_reducible refine Tot.dS (n := ?_) ?_ ?_); rotate_left; exact rfl) | ((with_reducible refine Tot.dL (n := ?_) (f := ?_) ?_ ?_); rotate_left 2; exact rfl))
  have h3 : TN (VP 220 3 (s220_3 a b c d e f g h)) := by
    rw [p220 hX, e220_3]
    repeat' first
      | exact Tot.some ⟨_, rfl⟩
      | refine Tot.cond (fun _ => ?_) (fun _ => ?_)
      | exact h5
      | (refine Tot.bind (h5) ?_; rintro _ ⟨_, rfl⟩)
      | exact t_min hX
      | (refine Tot.bind (t_min hX) ?_; rintro _ ⟨_, rfl⟩)
      | exact s_max hX
      | (refine Tot.bind (s_max hX) ?_; rintro _ ⟨_, rfl⟩)
      | (first | ((with_reducible refine Tot.rI (n := ?_) ?_ ?_); rotate_left; exact rfl) | ((with_reducible refine Tot.rB (n := ?_) ?_ ?_); rotate_left; exact rfl) | ((with_reducible refine Tot.rS (n := ?_) ?_ ?_); rotate_left; exact rfl) | ((with_reducible refine Tot.rM (n := ?_) ?_ ?_); rotate_left; exact rfl) | ((with_reducible refine Tot.rO (n := ?_) ?_ ?_); rotate_left; exact rfl) | ((with_reducible refine Tot.dI (n := ?_) ?_ ?_); rotate_left; exact rfl) | ((with_reducible refine Tot.dB (n := ?_) ?_ ?_); rotate_left; exact rfl) | ((with_reducible refine Tot.dS (n := ?_) ?_ ?_); rotate_left; exact rfl) | ((with_reducible refine Tot.dL (n := ?_) (f := ?_) ?_ ?_); rotate_left 2; exact rfl))
  repeat' first
    | exact Tot.some ⟨_, rfl⟩
    | refine Tot.cond (fun _ => ?_) (fun _ => ?_)
    | exact s_isseg hX
    | (refine Tot.bind (s_isseg hX) ?_; rintro _ ⟨_, rfl⟩)
    | exact h3
    | (refine Tot.bind (h3) ?_; rintro _ ⟨_, rfl⟩)
    | (first | ((with_reducible refine Tot.rI (n := ?_) ?_ ?_); rotate_left; exact rfl) | ((with_reducible refine Tot.rB (n := ?_) ?_ ?_); rotate_left; exact rfl) | ((with_reducible refine Tot.rS (n := ?_) ?_ ?_); rotate_left; exact rfl) | ((with_reducible refine Tot.rM (n := ?_) ?_ ?_); rotate_left; exact rfl) | ((with_reducible refine Tot.rO (n := ?_) ?_ ?_); rotate_left; exact rfl) | ((with_reducible refine Tot.dI (n := ?_) ?_ ?_); rotate_left; exact rfl) | ((with_reducible refine Tot.dB (n := ?_) ?_ ?_); rotate_left; exact rfl) | ((with_reducible refine Tot.dS (n := ?_) ?_ ?_); rotate_left; exact rfl) | ((with_reducible refine Tot.dL (n := ?_) (f := ?_) ?_ ?_); rotate_left 2; exact rfl))
end
end Go.Proofs.YtoiefmhmohhaeaaGreat.VE
/- The reference's source: it comes out, and its rows are features. -/
set_option linter.unusedVariables false
set_option linter.unusedSimpArgs false
namespace Go.Proofs.YtoiefmhmohhaeaaGreat.VE

theorem Se.four {l : List Rw} (h : Se l) : ∀ r ∈ l, r.length = 4 := fun r hr => by obtain ⟨_, _, _, _, rfl⟩ := h r hr; rfl
theorem Ft.old {r : Rw} (h : Ft r) : Ft (oldR r) := by
  obtain ⟨i, k, q, nm, f, p, rfl, hp, h1, h2⟩ := h
  exact ⟨i, k, q, nm, false, oldL p, rfl, hp.old.symm ▸ hp, by rw [hp.old]; exact h1, h2⟩
theorem Fts.old {l : List Rw} (h : Fts l) : Fts (oldL l) ∧ (oldL l).length = l.length := by
  induction l with
  | nil => exact ⟨Fts.nil, rfl⟩
  | cons r l ih =>
    obtain ⟨h1, h2⟩ := ih fun r hr => h r (List.mem_cons_of_mem _ hr)
    refine ⟨fun r' hr => ?_, congrArg (· + 1) h2⟩
    rcases List.mem_cons.mp hr with rfl | hr
    · exact (h r (List.mem_cons_self ..)).old
    · exact h1 r' hr

section
variable (hX : ExtFin tE)
include hX

theorem s_issimple {l : List Rw} (hl : Po l) (hn : l.length ≤ 1000) : TB (VV 214 [.c (.s false l)]) := by
  rw [b214 hX, e214]
  refine Tot.bind (s_segs hX hl hn) ?_
  rintro _ ⟨m, rfl, hm, hml⟩
  repeat (first | ((with_reducible refine Tot.rI (n := ?_) ?_ ?_); rotate_left; exact rfl) | ((with_reducible refine Tot.rB (n := ?_) ?_ ?_); rotate_left; exact rfl) | ((with_reducible refine Tot.rS (n := ?_) ?_ ?_); rotate_left; exact rfl) | ((with_reducible refine Tot.rM (n := ?_) ?_ ?_); rotate_left; exact rfl) | ((with_reducible refine Tot.rO (n := ?_) ?_ ?_); rotate_left; exact rfl) | ((with_reducible refine Tot.dI (n := ?_) ?_ ?_); rotate_left; exact rfl) | ((with_reducible refine Tot.dB (n := ?_) ?_ ?_); rotate_left; exact rfl) | ((with_reducible refine Tot.dS (n := ?_) ?_ ?_); rotate_left; exact rfl) | ((with_reducible refine Tot.dL (n := ?_) (f := ?_) ?_ ?_); rotate_left 2; exact rfl))
  suffices h : ∀ (k : Nat) (i : Int), 0 ≤ i → i ≤ m.length → m.length - i ≤ k → TB (VP 214 3 (s214_3 l i m)) from h m.length 0 (by omega) (by omega) (by omega)
  intro k
  induction k with
  | zero =>
    intro i h0 h1 hk
    rw [p214 hX, e214_3]
    refine Tot.cond (fun hx => ?_) fun hx => ?_
    · simp only [decide_eq_true_eq] at hx; omega
    · repeat' first
        | exact Tot.some ⟨_, rfl⟩
        | refine Tot.cond (fun _ => ?_) (fun _ => ?_)
        | exact s_isline hX hl hn
        | (refine Tot.bind (s_isline hX hl hn) ?_; rintro _ ⟨_, rfl⟩)
        | (first | ((with_reducible refine Tot.rI (n := ?_) ?_ ?_); rotate_left; exact rfl) | ((with_reducible refine Tot.rB (n := ?_) ?_ ?_); rotate_left; exact rfl) | ((with_reducible refine Tot.rS (n := ?_) ?_ ?_); rotate_left; exact rfl) | ((with_reducible refine Tot.rM (n := ?_) ?_ ?_); rotate_left; exact rfl) | ((with_reducible refine Tot.rO (n := ?_) ?_ ?_); rotate_left; exact rfl) | ((with_reducible refine Tot.dI (n := ?_) ?_ ?_); rotate_left; exact rfl) | ((with_reducible refine Tot.dB (n := ?_) ?_ ?_); rotate_left; exact rfl) | ((with_reducible refine Tot.dS (n := ?_) ?_ ?_); rotate_left; exact rfl) | ((with_reducible refine Tot.dL (n := ?_) (f := ?_) ?_ ?_); rotate_left 2; exact rfl))
  | succ k ih =>
    intro i h0 h1 hk
    have inner : i < m.length → ∀ (k : Nat) (j : Int), 0 ≤ j → j ≤ i → i - j ≤ k → TB (VP 214 6 (s214_6 l i j m)) := by
      intro hi k2
      induction k2 with
      | zero =>
        intro j j0 j1 jk
        rw [p214 hX, e214_6, w64 (x := i + 1) (by omega) (by omega)]
        refine Tot.cond (fun hx => ?_) fun hx => ih _ (by omega) (by omega) (by omega)
        simp only [decide_eq_true_eq] at hx; omega
      | succ k2 ih2 =>
        intro j j0 j1 jk
        have h11 : ∀ n : Int, j < i → TB (VP 214 11 (s214_11 l i j n m)) := by
          intro n hj
          rw [p214 hX, e214_11, w64 (x := j + 1) (by omega) (by omega)]
          refine Tot.chk (by omega) (Tot.get (by omega) fun r _ hr => ?_)
          obtain ⟨x, y, z, u, rfl⟩ := hm r hr
          repeat (first | ((with_reducible refine Tot.rI (n := ?_) ?_ ?_); rotate_left; exact rfl) | ((with_reducible refine Tot.rB (n := ?_) ?_ ?_); rotate_left; exact rfl) | ((with_reducible refine Tot.rS (n := ?_) ?_ ?_); rotate_left; exact rfl) | ((with_reducible refine Tot.rM (n := ?_) ?_ ?_); rotate_left; exact rfl) | ((with_reducible refine Tot.rO (n := ?_) ?_ ?_); rotate_left; exact rfl) | ((with_reducible refine Tot.dI (n := ?_) ?_ ?_); rotate_left; exact rfl) | ((with_reducible refine Tot.dB (n := ?_) ?_ ?_); rotate_left; exact rfl) | ((with_reducible refine Tot.dS (n := ?_) ?_ ?_); rotate_left; exact rfl) | ((with_reducible refine Tot.dL (n := ?_) (f := ?_) ?_ ?_); rotate_left 2; exact rfl))
          refine Tot.chk (by omega) (Tot.get (by omega) fun r _ hr => ?_)
          obtain ⟨x, y, z, u, rfl⟩ := hm r hr
          repeat (first | ((with_reducible refine Tot.rI (n := ?_) ?_ ?_); rotate_left; exact rfl) | ((with_reducible refine Tot.rB (n := ?_) ?_ ?_); rotate_left; exact rfl) | ((with_reducible refine Tot.rS (n := ?_) ?_ ?_); rotate_left; exact rfl) | ((with_reducible refine Tot.rM (n := ?_) ?_ ?_); rotate_left; exact rfl) | ((with_reducible refine Tot.rO (n := ?_) ?_ ?_); rotate_left; exact rfl) | ((with_reducible refine Tot.dI (n := ?_) ?_ ?_); rotate_left; exact rfl) | ((with_reducible refine Tot.dB (n := ?_) ?_ ?_); rotate_left; exact rfl) | ((with_reducible refine Tot.dS (n := ?_) ?_ ?_); rotate_left; exact rfl) | ((with_reducible refine Tot.dL (n := ?_) (f := ?_) ?_ ?_); rotate_left 2; exact rfl))
          refine Tot.bind (s_howmeet hX) ?_
          rintro _ ⟨_, rfl⟩
          repeat (first | ((with_reducible refine Tot.rI (n := ?_) ?_ ?_); rotate_left; exact rfl) | ((with_reducible refine Tot.rB (n := ?_) ?_ ?_); rotate_left; exact rfl) | ((with_reducible refine Tot.rS (n := ?_) ?_ ?_); rotate_left; exact rfl) | ((with_reducible refine Tot.rM (n := ?_) ?_ ?_); rotate_left; exact rfl) | ((with_reducible refine Tot.rO (n := ?_) ?_ ?_); rotate_left; exact rfl) | ((with_reducible refine Tot.dI (n := ?_) ?_ ?_); rotate_left; exact rfl) | ((with_reducible refine Tot.dB (n := ?_) ?_ ?_); rotate_left; exact rfl) | ((with_reducible refine Tot.dS (n := ?_) ?_ ?_); rotate_left; exact rfl) | ((with_reducible refine Tot.dL (n := ?_) (f := ?_) ?_ ?_); rotate_left 2; exact rfl))
          exact Tot.cond (fun _ => .some ⟨_, rfl⟩) fun _ => ih2 _ (by omega) (by omega) (by omega)
        rw [p214 hX, e214_6, w64 (x := i + 1) (by omega) (by omega)]
        refine Tot.cond (fun hx => ?_) fun hx => ih _ (by omega) (by omega) (by omega)
        simp only [decide_eq_true_eq] at hx
        exact Tot.cond (fun _ => h11 _ hx) fun _ => h11 _ hx
    rw [p214 hX, e214_3]
    refine Tot.cond (fun hx => ?_) fun hx => ?_
    · simp only [decide_eq_true_eq] at hx
      exact inner hx i.toNat 0 (by omega) (by omega) (by omega)
    · repeat' first
        | exact Tot.some ⟨_, rfl⟩
        | refine Tot.cond (fun _ => ?_) (fun _ => ?_)
        | exact s_isline hX hl hn
        | (refine Tot.bind (s_isline hX hl hn) ?_; rintro _ ⟨_, rfl⟩)
        | (first | ((with_reducible refine Tot.rI (n := ?_) ?_ ?_); rotate_left; exact rfl) | ((with_reducible refine Tot.rB (n := ?_) ?_ ?_); rotate_left; exact rfl) | ((with_reducible refine Tot.rS (n := ?_) ?_ ?_); rotate_left; exact rfl) | ((with_reducible refine Tot.rM (n := ?_) ?_ ?_); rotate_left; exact rfl) | ((with_reducible refine Tot.rO (n := ?_) ?_ ?_); rotate_left; exact rfl) | ((with_reducible refine Tot.dI (n := ?_) ?_ ?_); rotate_left; exact rfl) | ((with_reducible refine Tot.dB (n := ?_) ?_ ?_); rotate_left; exact rfl) | ((with_reducible refine Tot.dS (n := ?_) ?_ ?_); rotate_left; exact rfl) | ((with_reducible refine Tot.dL (n := ?_) (f := ?_) ?_ ?_); rotate_left 2; exact rfl))
theorem s_7segs {l : List Rw} (hl : Po l) (hn : l.length ≤ 1000) : Tot (VV 222 [.c (.s false l)]) fun r => ∃ m, r = [.own m] ∧ Se m ∧ m.length ≤ l.length := by
  rw [b222 hX, e222]
  suffices h : ∀ (k : Nat) (i : Int) (m : List Rw), 0 ≤ i → Se m → (m.length : Int) = i → m.length ≤ l.length → l.length - i ≤ k → Tot (VP 222 3 (s222_3 l i m)) fun r => ∃ m, r = [.own m] ∧ Se m ∧ m.length ≤ l.length from h l.length 0 [] (by omega) Se.nil (by simp) (by simp) (by omega)
  intro k
  induction k with
  | zero =>
    intro i m h0 hm h1 h2 hk
    rw [p222 hX, e222_3]
    refine Tot.cond (fun hx => ?_) fun hx => .some ⟨_, rfl, hm, h2⟩
    simp only [decide_eq_true_eq] at hx; omega
  | succ k ih =>
    intro i m h0 hm h1 h2 hk
    rw [p222 hX, e222_3]
    refine Tot.cond (fun hx => ?_) fun hx => .some ⟨_, rfl, hm, h2⟩
    simp only [decide_eq_true_eq] at hx
    rw [w64 (x := i + 1) (by omega) (by omega)]
    refine Tot.getE h0 hx hl.two fun r _ hr => ?_
    obtain ⟨x, y, rfl⟩ := hl r hr
    repeat (first | ((with_reducible refine Tot.rI (n := ?_) ?_ ?_); rotate_left; exact rfl) | ((with_reducible refine Tot.rB (n := ?_) ?_ ?_); rotate_left; exact rfl) | ((with_reducible refine Tot.rS (n := ?_) ?_ ?_); rotate_left; exact rfl) | ((with_reducible refine Tot.rM (n := ?_) ?_ ?_); rotate_left; exact rfl) | ((with_reducible refine Tot.rO (n := ?_) ?_ ?_); rotate_left; exact rfl) | ((with_reducible refine Tot.dI (n := ?_) ?_ ?_); rotate_left; exact rfl) | ((with_reducible refine Tot.dB (n := ?_) ?_ ?_); rotate_left; exact rfl) | ((with_reducible refine Tot.dS (n := ?_) ?_ ?_); rotate_left; exact rfl) | ((with_reducible refine Tot.dL (n := ?_) (f := ?_) ?_ ?_); rotate_left 2; exact rfl))
    have ht := tmod_lt (x := i + 1) (n := l.length) (by omega) (by omega)
    refine Tot.chk (by omega) (Tot.getE ht.1 ht.2 hl.two fun r _ hr => ?_)
    obtain ⟨x, y, rfl⟩ := hl r hr
    repeat (first | ((with_reducible refine Tot.rI (n := ?_) ?_ ?_); rotate_left; exact rfl) | ((with_reducible refine Tot.rB (n := ?_) ?_ ?_); rotate_left; exact rfl) | ((with_reducible refine Tot.rS (n := ?_) ?_ ?_); rotate_left; exact rfl) | ((with_reducible refine Tot.rM (n := ?_) ?_ ?_); rotate_left; exact rfl) | ((with_reducible refine Tot.rO (n := ?_) ?_ ?_); rotate_left; exact rfl) | ((with_reducible refine Tot.dI (n := ?_) ?_ ?_); rotate_left; exact rfl) | ((with_reducible refine Tot.dB (n := ?_) ?_ ?_); rotate_left; exact rfl) | ((with_reducible refine Tot.dS (n := ?_) ?_ ?_); rotate_left; exact rfl) | ((with_reducible refine Tot.dL (n := ?_) (f := ?_) ?_ ?_); rotate_left 2; exact rfl))
    refine Tot.chk (by simp only [List.length_cons, List.length_nil]; omega) ?_
    refine ih _ _ ?_ (hm.app Se.one) ?_ ?_ ?_ <;> (try simp only [List.length_append, List.length_cons, List.length_nil]) <;> omega
theorem s_isring {l : List Rw} (hl : Po l) (hn : l.length ≤ 1000) : TB (VV 215 [.c (.s false l)]) := by
  rw [b215 hX, e215]
  refine Tot.bind (s_in hX) ?_
  rintro _ ⟨_, rfl⟩
  repeat (first | ((with_reducible refine Tot.rI (n := ?_) ?_ ?_); rotate_left; exact rfl) | ((with_reducible refine Tot.rB (n := ?_) ?_ ?_); rotate_left; exact rfl) | ((with_reducible refine Tot.rS (n := ?_) ?_ ?_); rotate_left; exact rfl) | ((with_reducible refine Tot.rM (n := ?_) ?_ ?_); rotate_left; exact rfl) | ((with_reducible refine Tot.rO (n := ?_) ?_ ?_); rotate_left; exact rfl) | ((with_reducible refine Tot.dI (n := ?_) ?_ ?_); rotate_left; exact rfl) | ((with_reducible refine Tot.dB (n := ?_) ?_ ?_); rotate_left; exact rfl) | ((with_reducible refine Tot.dS (n := ?_) ?_ ?_); rotate_left; exact rfl) | ((with_reducible refine Tot.dL (n := ?_) (f := ?_) ?_ ?_); rotate_left 2; exact rfl))
  refine Tot.cond (fun _ => .some ⟨_, rfl⟩) fun _ => ?_
  refine Tot.bind (s_7segs hX hl hn) ?_
  rintro _ ⟨m, rfl, hm, hml⟩
  repeat (first | ((with_reducible refine Tot.rI (n := ?_) ?_ ?_); rotate_left; exact rfl) | ((with_reducible refine Tot.rB (n := ?_) ?_ ?_); rotate_left; exact rfl) | ((with_reducible refine Tot.rS (n := ?_) ?_ ?_); rotate_left; exact rfl) | ((with_reducible refine Tot.rM (n := ?_) ?_ ?_); rotate_left; exact rfl) | ((with_reducible refine Tot.rO (n := ?_) ?_ ?_); rotate_left; exact rfl) | ((with_reducible refine Tot.dI (n := ?_) ?_ ?_); rotate_left; exact rfl) | ((with_reducible refine Tot.dB (n := ?_) ?_ ?_); rotate_left; exact rfl) | ((with_reducible refine Tot.dS (n := ?_) ?_ ?_); rotate_left; exact rfl) | ((with_reducible refine Tot.dL (n := ?_) (f := ?_) ?_ ?_); rotate_left 2; exact rfl))
  suffices h : ∀ (k : Nat) (i : Int), 0 ≤ i → i ≤ m.length → m.length - i ≤ k → TB (VP 215 5 (s215_5 i m)) from h m.length 0 (by omega) (by omega) (by omega)
  intro k
  induction k with
  | zero =>
    intro i h0 h1 hk
    rw [p215 hX, e215_5]
    refine Tot.cond (fun hx => ?_) fun hx => .some ⟨_, rfl⟩
    simp only [decide_eq_true_eq] at hx; omega
  | succ k ih =>
    intro i h0 h1 hk
    have inner : i < m.length → ∀ (k : Nat) (j : Int), 0 ≤ j → j ≤ i → i - j ≤ k → TB (VP 215 10 (s215_10 i j m)) := by
      intro hi k2
      induction k2 with
      | zero =>
        intro j j0 j1 jk
        rw [p215 hX, e215_10, w64 (x := i + 1) (by omega) (by omega)]
        refine Tot.cond (fun hx => ?_) fun hx => ih _ (by omega) (by omega) (by omega)
        simp only [decide_eq_true_eq] at hx; omega
      | succ k2 ih2 =>
        intro j j0 j1 jk
        have h15 : ∀ n : Int, j < i → TB (VP 215 15 (s215_15 i j n m)) := by
          intro n hj
          rw [p215 hX, e215_15, w64 (x := j + 1) (by omega) (by omega)]
          refine Tot.chk (by omega) (Tot.get (by omega) fun r _ hr => ?_)
          obtain ⟨x, y, z, u, rfl⟩ := hm r hr
          repeat (first | ((with_reducible refine Tot.rI (n := ?_) ?_ ?_); rotate_left; exact rfl) | ((with_reducible refine Tot.rB (n := ?_) ?_ ?_); rotate_left; exact rfl) | ((with_reducible refine Tot.rS (n := ?_) ?_ ?_); rotate_left; exact rfl) | ((with_reducible refine Tot.rM (n := ?_) ?_ ?_); rotate_left; exact rfl) | ((with_reducible refine Tot.rO (n := ?_) ?_ ?_); rotate_left; exact rfl) | ((with_reducible refine Tot.dI (n := ?_) ?_ ?_); rotate_left; exact rfl) | ((with_reducible refine Tot.dB (n := ?_) ?_ ?_); rotate_left; exact rfl) | ((with_reducible refine Tot.dS (n := ?_) ?_ ?_); rotate_left; exact rfl) | ((with_reducible refine Tot.dL (n := ?_) (f := ?_) ?_ ?_); rotate_left 2; exact rfl))
          refine Tot.chk (by omega) (Tot.get (by omega) fun r _ hr => ?_)
          obtain ⟨x, y, z, u, rfl⟩ := hm r hr
          repeat (first | ((with_reducible refine Tot.rI (n := ?_) ?_ ?_); rotate_left; exact rfl) | ((with_reducible refine Tot.rB (n := ?_) ?_ ?_); rotate_left; exact rfl) | ((with_reducible refine Tot.rS (n := ?_) ?_ ?_); rotate_left; exact rfl) | ((with_reducible refine Tot.rM (n := ?_) ?_ ?_); rotate_left; exact rfl) | ((with_reducible refine Tot.rO (n := ?_) ?_ ?_); rotate_left; exact rfl) | ((with_reducible refine Tot.dI (n := ?_) ?_ ?_); rotate_left; exact rfl) | ((with_reducible refine Tot.dB (n := ?_) ?_ ?_); rotate_left; exact rfl) | ((with_reducible refine Tot.dS (n := ?_) ?_ ?_); rotate_left; exact rfl) | ((with_reducible refine Tot.dL (n := ?_) (f := ?_) ?_ ?_); rotate_left 2; exact rfl))
          refine Tot.bind (s_howmeet hX) ?_
          rintro _ ⟨_, rfl⟩
          repeat (first | ((with_reducible refine Tot.rI (n := ?_) ?_ ?_); rotate_left; exact rfl) | ((with_reducible refine Tot.rB (n := ?_) ?_ ?_); rotate_left; exact rfl) | ((with_reducible refine Tot.rS (n := ?_) ?_ ?_); rotate_left; exact rfl) | ((with_reducible refine Tot.rM (n := ?_) ?_ ?_); rotate_left; exact rfl) | ((with_reducible refine Tot.rO (n := ?_) ?_ ?_); rotate_left; exact rfl) | ((with_reducible refine Tot.dI (n := ?_) ?_ ?_); rotate_left; exact rfl) | ((with_reducible refine Tot.dB (n := ?_) ?_ ?_); rotate_left; exact rfl) | ((with_reducible refine Tot.dS (n := ?_) ?_ ?_); rotate_left; exact rfl) | ((with_reducible refine Tot.dL (n := ?_) (f := ?_) ?_ ?_); rotate_left 2; exact rfl))
          exact Tot.cond (fun _ => .some ⟨_, rfl⟩) fun _ => ih2 _ (by omega) (by omega) (by omega)
        rw [p215 hX, e215_10, w64 (x := i + 1) (by omega) (by omega)]
        refine Tot.cond (fun hx => ?_) fun hx => ih _ (by omega) (by omega) (by omega)
        simp only [decide_eq_true_eq] at hx
        exact Tot.cond (fun _ => h15 _ hx) fun _ => Tot.cond (fun _ => Tot.cond (fun _ => h15 _ hx) fun _ => h15 _ hx) fun _ => h15 _ hx
    rw [p215 hX, e215_5]
    refine Tot.cond (fun hx => ?_) fun hx => .some ⟨_, rfl⟩
    simp only [decide_eq_true_eq] at hx
    refine Tot.chk (by omega) (Tot.get (by omega) fun r _ hr => ?_)
    obtain ⟨x, y, z, u, rfl⟩ := hm r hr
    repeat (first | ((with_reducible refine Tot.rI (n := ?_) ?_ ?_); rotate_left; exact rfl) | ((with_reducible refine Tot.rB (n := ?_) ?_ ?_); rotate_left; exact rfl) | ((with_reducible refine Tot.rS (n := ?_) ?_ ?_); rotate_left; exact rfl) | ((with_reducible refine Tot.rM (n := ?_) ?_ ?_); rotate_left; exact rfl) | ((with_reducible refine Tot.rO (n := ?_) ?_ ?_); rotate_left; exact rfl) | ((with_reducible refine Tot.dI (n := ?_) ?_ ?_); rotate_left; exact rfl) | ((with_reducible refine Tot.dB (n := ?_) ?_ ?_); rotate_left; exact rfl) | ((with_reducible refine Tot.dS (n := ?_) ?_ ?_); rotate_left; exact rfl) | ((with_reducible refine Tot.dL (n := ?_) (f := ?_) ?_ ?_); rotate_left 2; exact rfl))
    refine Tot.bind (s_isseg hX) ?_
    rintro _ ⟨_, rfl⟩
    repeat (first | ((with_reducible refine Tot.rI (n := ?_) ?_ ?_); rotate_left; exact rfl) | ((with_reducible refine Tot.rB (n := ?_) ?_ ?_); rotate_left; exact rfl) | ((with_reducible refine Tot.rS (n := ?_) ?_ ?_); rotate_left; exact rfl) | ((with_reducible refine Tot.rM (n := ?_) ?_ ?_); rotate_left; exact rfl) | ((with_reducible refine Tot.rO (n := ?_) ?_ ?_); rotate_left; exact rfl) | ((with_reducible refine Tot.dI (n := ?_) ?_ ?_); rotate_left; exact rfl) | ((with_reducible refine Tot.dB (n := ?_) ?_ ?_); rotate_left; exact rfl) | ((with_reducible refine Tot.dS (n := ?_) ?_ ?_); rotate_left; exact rfl) | ((with_reducible refine Tot.dL (n := ?_) (f := ?_) ?_ ?_); rotate_left 2; exact rfl))
    exact Tot.cond (fun _ => .some ⟨_, rfl⟩) fun _ => inner hx i.toNat 0 (by omega) (by omega) (by omega)
theorem s_isfeature {i k q : Int} {nm : ByteArray} {p : List Rw} (hp : Po p) (hl : p.length ≤ 1000) (hn : nm.size ≤ 1000) : TB (VV 201 [.agg [iD i, iD k, iD q, sD nm, .s false p]]) := by
  rw [b201 hX, e201]
  have h3 : TB (VP 201 3 (s201_3 i k q nm p)) := by
    rw [p201 hX, e201_3]
    refine Tot.cond (fun _ => Tot.cond (fun h1 => ?_) fun _ => .some ⟨_, rfl⟩) fun _ => ?_
    · have h1 := eq_of_beq h1
      refine Tot.getE (by omega) (by omega) hp.two fun r _ hr => ?_
      obtain ⟨x, y, rfl⟩ := hp r hr
      repeat' first
        | exact Tot.some ⟨_, rfl⟩
        | refine Tot.cond (fun _ => ?_) (fun _ => ?_)
        | exact s_ispoint hX
        | (refine Tot.bind (s_ispoint hX) ?_; rintro _ ⟨_, rfl⟩)
        | (first | ((with_reducible refine Tot.rI (n := ?_) ?_ ?_); rotate_left; exact rfl) | ((with_reducible refine Tot.rB (n := ?_) ?_ ?_); rotate_left; exact rfl) | ((with_reducible refine Tot.rS (n := ?_) ?_ ?_); rotate_left; exact rfl) | ((with_reducible refine Tot.rM (n := ?_) ?_ ?_); rotate_left; exact rfl) | ((with_reducible refine Tot.rO (n := ?_) ?_ ?_); rotate_left; exact rfl) | ((with_reducible refine Tot.dI (n := ?_) ?_ ?_); rotate_left; exact rfl) | ((with_reducible refine Tot.dB (n := ?_) ?_ ?_); rotate_left; exact rfl) | ((with_reducible refine Tot.dS (n := ?_) ?_ ?_); rotate_left; exact rfl) | ((with_reducible refine Tot.dL (n := ?_) (f := ?_) ?_ ?_); rotate_left 2; exact rfl))
    · repeat' first
        | exact Tot.some ⟨_, rfl⟩
        | refine Tot.cond (fun _ => ?_) (fun _ => ?_)
        | exact s_issimple hX hp hl
        | (refine Tot.bind (s_issimple hX hp hl) ?_; rintro _ ⟨_, rfl⟩)
        | exact s_isring hX hp hl
        | (refine Tot.bind (s_isring hX hp hl) ?_; rintro _ ⟨_, rfl⟩)
        | (first | ((with_reducible refine Tot.rI (n := ?_) ?_ ?_); rotate_left; exact rfl) | ((with_reducible refine Tot.rB (n := ?_) ?_ ?_); rotate_left; exact rfl) | ((with_reducible refine Tot.rS (n := ?_) ?_ ?_); rotate_left; exact rfl) | ((with_reducible refine Tot.rM (n := ?_) ?_ ?_); rotate_left; exact rfl) | ((with_reducible refine Tot.rO (n := ?_) ?_ ?_); rotate_left; exact rfl) | ((with_reducible refine Tot.dI (n := ?_) ?_ ?_); rotate_left; exact rfl) | ((with_reducible refine Tot.dB (n := ?_) ?_ ?_); rotate_left; exact rfl) | ((with_reducible refine Tot.dS (n := ?_) ?_ ?_); rotate_left; exact rfl) | ((with_reducible refine Tot.dL (n := ?_) (f := ?_) ?_ ?_); rotate_left 2; exact rfl))
  repeat' first
    | exact Tot.some ⟨_, rfl⟩
    | refine Tot.cond (fun _ => ?_) (fun _ => ?_)
    | exact s_in hX
    | (refine Tot.bind (s_in hX) ?_; rintro _ ⟨_, rfl⟩)
    | exact h3
    | (refine Tot.bind (h3) ?_; rintro _ ⟨_, rfl⟩)
    | exact s_isname hX (by omega)
    | (refine Tot.bind (s_isname hX (by omega)) ?_; rintro _ ⟨_, rfl⟩)
    | (first | ((with_reducible refine Tot.rI (n := ?_) ?_ ?_); rotate_left; exact rfl) | ((with_reducible refine Tot.rB (n := ?_) ?_ ?_); rotate_left; exact rfl) | ((with_reducible refine Tot.rS (n := ?_) ?_ ?_); rotate_left; exact rfl) | ((with_reducible refine Tot.rM (n := ?_) ?_ ?_); rotate_left; exact rfl) | ((with_reducible refine Tot.rO (n := ?_) ?_ ?_); rotate_left; exact rfl) | ((with_reducible refine Tot.dI (n := ?_) ?_ ?_); rotate_left; exact rfl) | ((with_reducible refine Tot.dB (n := ?_) ?_ ?_); rotate_left; exact rfl) | ((with_reducible refine Tot.dS (n := ?_) ?_ ?_); rotate_left; exact rfl) | ((with_reducible refine Tot.dL (n := ?_) (f := ?_) ?_ ?_); rotate_left 2; exact rfl))
theorem s_issource {l : List Rw} (hl : Fts l) (hn : l.length ≤ 1000) : TB (VV 175 [.c (.s false l)]) := by
  rw [b175 hX, e175]
  suffices h : ∀ (k : Nat) (i : Int), 0 ≤ i → i ≤ l.length → l.length - i ≤ k → TB (VP 175 2 (s175_2 l i)) from h l.length 0 (by omega) (by omega) (by omega)
  intro k
  induction k with
  | zero =>
    intro i h0 h1 hk
    rw [p175 hX, e175_2]
    refine Tot.cond (fun hx => ?_) fun hx => .some ⟨_, rfl⟩
    simp only [decide_eq_true_eq] at hx; omega
  | succ k ih =>
    intro i h0 h1 hk
    rw [p175 hX, e175_2]
    refine Tot.cond (fun hx => ?_) fun hx => .some ⟨_, rfl⟩
    simp only [decide_eq_true_eq] at hx
    refine Tot.getE h0 hx hl.five fun r _ hr => ?_
    obtain ⟨_, _, _, _, _, _, rfl, hp, hpl, hnm⟩ := hl r hr
    repeat (first | ((with_reducible refine Tot.rI (n := ?_) ?_ ?_); rotate_left; exact rfl) | ((with_reducible refine Tot.rB (n := ?_) ?_ ?_); rotate_left; exact rfl) | ((with_reducible refine Tot.rS (n := ?_) ?_ ?_); rotate_left; exact rfl) | ((with_reducible refine Tot.rM (n := ?_) ?_ ?_); rotate_left; exact rfl) | ((with_reducible refine Tot.rO (n := ?_) ?_ ?_); rotate_left; exact rfl) | ((with_reducible refine Tot.dI (n := ?_) ?_ ?_); rotate_left; exact rfl) | ((with_reducible refine Tot.dB (n := ?_) ?_ ?_); rotate_left; exact rfl) | ((with_reducible refine Tot.dS (n := ?_) ?_ ?_); rotate_left; exact rfl) | ((with_reducible refine Tot.dL (n := ?_) (f := ?_) ?_ ?_); rotate_left 2; exact rfl))
    refine Tot.bind (s_isfeature hX hp (by omega) (by omega)) ?_
    rintro _ ⟨_, rfl⟩
    repeat (first | ((with_reducible refine Tot.rI (n := ?_) ?_ ?_); rotate_left; exact rfl) | ((with_reducible refine Tot.rB (n := ?_) ?_ ?_); rotate_left; exact rfl) | ((with_reducible refine Tot.rS (n := ?_) ?_ ?_); rotate_left; exact rfl) | ((with_reducible refine Tot.rM (n := ?_) ?_ ?_); rotate_left; exact rfl) | ((with_reducible refine Tot.rO (n := ?_) ?_ ?_); rotate_left; exact rfl) | ((with_reducible refine Tot.dI (n := ?_) ?_ ?_); rotate_left; exact rfl) | ((with_reducible refine Tot.dB (n := ?_) ?_ ?_); rotate_left; exact rfl) | ((with_reducible refine Tot.dS (n := ?_) ?_ ?_); rotate_left; exact rfl) | ((with_reducible refine Tot.dL (n := ?_) (f := ?_) ?_ ?_); rotate_left 2; exact rfl))
    rw [w64 (x := i + 1) (by omega) (by omega)]
    have hi := ih (i + 1) (by omega) (by omega) (by omega)
    refine Tot.cond (fun _ => .some ⟨_, rfl⟩) fun _ => Tot.cond (fun hx2 => ?_) fun _ => hi
    simp only [decide_eq_true_eq] at hx2
    rw [w64 (x := i - 1) (by omega) (by omega)]
    refine Tot.getE (by omega) (by omega) hl.five fun r _ hr => ?_
    obtain ⟨_, _, _, _, _, _, rfl, _, _, _⟩ := hl r hr
    repeat (first | ((with_reducible refine Tot.rI (n := ?_) ?_ ?_); rotate_left; exact rfl) | ((with_reducible refine Tot.rB (n := ?_) ?_ ?_); rotate_left; exact rfl) | ((with_reducible refine Tot.rS (n := ?_) ?_ ?_); rotate_left; exact rfl) | ((with_reducible refine Tot.rM (n := ?_) ?_ ?_); rotate_left; exact rfl) | ((with_reducible refine Tot.rO (n := ?_) ?_ ?_); rotate_left; exact rfl) | ((with_reducible refine Tot.dI (n := ?_) ?_ ?_); rotate_left; exact rfl) | ((with_reducible refine Tot.dB (n := ?_) ?_ ?_); rotate_left; exact rfl) | ((with_reducible refine Tot.dS (n := ?_) ?_ ?_); rotate_left; exact rfl) | ((with_reducible refine Tot.dL (n := ?_) (f := ?_) ?_ ?_); rotate_left 2; exact rfl))
    refine Tot.getE h0 hx hl.five fun r _ hr => ?_
    obtain ⟨_, _, _, _, _, _, rfl, _, _, _⟩ := hl r hr
    repeat (first | ((with_reducible refine Tot.rI (n := ?_) ?_ ?_); rotate_left; exact rfl) | ((with_reducible refine Tot.rB (n := ?_) ?_ ?_); rotate_left; exact rfl) | ((with_reducible refine Tot.rS (n := ?_) ?_ ?_); rotate_left; exact rfl) | ((with_reducible refine Tot.rM (n := ?_) ?_ ?_); rotate_left; exact rfl) | ((with_reducible refine Tot.rO (n := ?_) ?_ ?_); rotate_left; exact rfl) | ((with_reducible refine Tot.dI (n := ?_) ?_ ?_); rotate_left; exact rfl) | ((with_reducible refine Tot.dB (n := ?_) ?_ ?_); rotate_left; exact rfl) | ((with_reducible refine Tot.dS (n := ?_) ?_ ?_); rotate_left; exact rfl) | ((with_reducible refine Tot.dL (n := ?_) (f := ?_) ?_ ?_); rotate_left 2; exact rfl))
    exact Tot.cond (fun _ => .some ⟨_, rfl⟩) fun _ => hi
theorem s_9feature {i k q : Int} {nm : ByteArray} {p : List Rw} (hp : Po p) (hl : p.length ≤ 1000) : Tot (VV 170 [.agg [iD i, iD k, iD q, sD nm, .s false p]]) fun r => r = [iR i, iR k, iR q, sR nm, .own p] := by
  rw [b170 hX, e170]
  exact Tot.chk hp.two (Tot.chk (by simp only [List.length_nil]; omega) (.some rfl))
theorem s_9copy {l : List Rw} (hl : Fts l) (hn : l.length ≤ 1000) : Tot (VV 174 [.c (.s false l)]) fun r => ∃ m, r = [.own m] ∧ Fts m ∧ m.length = l.length := by
  rw [b174 hX, e174]
  suffices h : ∀ (k : Nat) (i : Int) (m : List Rw), 0 ≤ i → i ≤ l.length → Fts m → (m.length : Int) = i → l.length - i ≤ k → Tot (VP 174 3 (s174_3 l i m)) fun r => ∃ m, r = [.own m] ∧ Fts m ∧ m.length = l.length from h l.length 0 [] (by omega) (by omega) Fts.nil (by simp) (by omega)
  intro k
  induction k with
  | zero =>
    intro i m h0 h1 hm h2 hk
    rw [p174 hX, e174_3]
    refine Tot.cond (fun hx => ?_) fun hx => .some ⟨_, rfl, hm, by omega⟩
    simp only [decide_eq_true_eq] at hx; omega
  | succ k ih =>
    intro i m h0 h1 hm h2 hk
    rw [p174 hX, e174_3]
    refine Tot.cond (fun hx => ?_) fun hx => .some ⟨_, rfl, hm, by simp only [decide_eq_false_iff_not] at hx; omega⟩
    simp only [decide_eq_true_eq] at hx
    refine Tot.getE h0 hx hl.five fun r _ hr => ?_
    obtain ⟨_, _, _, _, _, _, rfl, hp, hpl, hnm⟩ := hl r hr
    repeat (first | ((with_reducible refine Tot.rI (n := ?_) ?_ ?_); rotate_left; exact rfl) | ((with_reducible refine Tot.rB (n := ?_) ?_ ?_); rotate_left; exact rfl) | ((with_reducible refine Tot.rS (n := ?_) ?_ ?_); rotate_left; exact rfl) | ((with_reducible refine Tot.rM (n := ?_) ?_ ?_); rotate_left; exact rfl) | ((with_reducible refine Tot.rO (n := ?_) ?_ ?_); rotate_left; exact rfl) | ((with_reducible refine Tot.dI (n := ?_) ?_ ?_); rotate_left; exact rfl) | ((with_reducible refine Tot.dB (n := ?_) ?_ ?_); rotate_left; exact rfl) | ((with_reducible refine Tot.dS (n := ?_) ?_ ?_); rotate_left; exact rfl) | ((with_reducible refine Tot.dL (n := ?_) (f := ?_) ?_ ?_); rotate_left 2; exact rfl))
    refine Tot.bind (s_9feature hX hp (by omega)) ?_
    rintro _ rfl
    repeat (first | ((with_reducible refine Tot.rI (n := ?_) ?_ ?_); rotate_left; exact rfl) | ((with_reducible refine Tot.rB (n := ?_) ?_ ?_); rotate_left; exact rfl) | ((with_reducible refine Tot.rS (n := ?_) ?_ ?_); rotate_left; exact rfl) | ((with_reducible refine Tot.rM (n := ?_) ?_ ?_); rotate_left; exact rfl) | ((with_reducible refine Tot.rO (n := ?_) ?_ ?_); rotate_left; exact rfl) | ((with_reducible refine Tot.dI (n := ?_) ?_ ?_); rotate_left; exact rfl) | ((with_reducible refine Tot.dB (n := ?_) ?_ ?_); rotate_left; exact rfl) | ((with_reducible refine Tot.dS (n := ?_) ?_ ?_); rotate_left; exact rfl) | ((with_reducible refine Tot.dL (n := ?_) (f := ?_) ?_ ?_); rotate_left 2; exact rfl))
    refine Tot.chk (by simp only [List.length_cons, List.length_nil]; omega) ?_
    rw [w64 (x := i + 1) (by omega) (by omega)]
    refine ih _ _ (by omega) (by omega) (hm.app (Fts.one ⟨_, _, _, _, _, _, rfl, hp, hpl, hnm⟩)) ?_ ?_ <;> (try simp only [List.length_append, List.length_cons, List.length_nil]) <;> omega
end
end Go.Proofs.YtoiefmhmohhaeaaGreat.VE
/- The drawn source. -/
set_option linter.unusedVariables false
set_option linter.unusedSimpArgs false
namespace Go.Proofs.YtoiefmhmohhaeaaGreat.VE

theorem Fts.set {l : List Rw} {n : Nat} {r : Rw} (h : Fts l) (hr : Ft r) : Fts (l.set n r) := fun r' h' => by
  rcases List.mem_or_eq_of_mem_set h' with h' | rfl
  · exact h r' h'
  · exact hr

section
variable (hX : ExtFin tE)
include hX

theorem s_put7 {l m : List Rw} {j i k q : Int} {nm : ByteArray} {p : List Rw} (hl : Fts l) (hn : l.length ≤ 500) (hm : Fts m) (hmn : m.length ≤ l.length) (hp : Po p) (hpl : p.length ≤ 100) (hnm : nm.size ≤ 100) (h0 : 0 ≤ j) (h1 : j + m.length ≤ l.length) : Tot (VP 134 7 (s134_7 l j m i k q nm p)) fun r => ∃ l' b, r = [.own l', bR b] ∧ Fts l' ∧ l'.length ≤ l.length + 1 := by
  rw [p134 hX, e134_7]
  refine Tot.chk ⟨by omega, hl.five⟩ ?_
  have ht : ((l.drop 0).take (j.toNat - 0)).length = j.toNat := by rw [List.length_take, List.length_drop]; omega
  refine Tot.bind (s_9copy hX (l := (l.drop 0).take (j.toNat - 0)) (hl.sub fun r hr => List.mem_of_mem_drop (List.mem_of_mem_take hr)) (by omega)) ?_
  rintro _ ⟨u, rfl, hu, hul⟩
  repeat (first | ((with_reducible refine Tot.rI (n := ?_) ?_ ?_); rotate_left; exact rfl) | ((with_reducible refine Tot.rB (n := ?_) ?_ ?_); rotate_left; exact rfl) | ((with_reducible refine Tot.rS (n := ?_) ?_ ?_); rotate_left; exact rfl) | ((with_reducible refine Tot.rM (n := ?_) ?_ ?_); rotate_left; exact rfl) | ((with_reducible refine Tot.rO (n := ?_) ?_ ?_); rotate_left; exact rfl) | ((with_reducible refine Tot.dI (n := ?_) ?_ ?_); rotate_left; exact rfl) | ((with_reducible refine Tot.dB (n := ?_) ?_ ?_); rotate_left; exact rfl) | ((with_reducible refine Tot.dS (n := ?_) ?_ ?_); rotate_left; exact rfl) | ((with_reducible refine Tot.dL (n := ?_) (f := ?_) ?_ ?_); rotate_left 2; exact rfl))
  refine Tot.bind (s_9feature hX hp (by omega)) ?_
  rintro _ rfl
  repeat (first | ((with_reducible refine Tot.rI (n := ?_) ?_ ?_); rotate_left; exact rfl) | ((with_reducible refine Tot.rB (n := ?_) ?_ ?_); rotate_left; exact rfl) | ((with_reducible refine Tot.rS (n := ?_) ?_ ?_); rotate_left; exact rfl) | ((with_reducible refine Tot.rM (n := ?_) ?_ ?_); rotate_left; exact rfl) | ((with_reducible refine Tot.rO (n := ?_) ?_ ?_); rotate_left; exact rfl) | ((with_reducible refine Tot.dI (n := ?_) ?_ ?_); rotate_left; exact rfl) | ((with_reducible refine Tot.dB (n := ?_) ?_ ?_); rotate_left; exact rfl) | ((with_reducible refine Tot.dS (n := ?_) ?_ ?_); rotate_left; exact rfl) | ((with_reducible refine Tot.dL (n := ?_) (f := ?_) ?_ ?_); rotate_left 2; exact rfl))
  refine Tot.chk (by simp only [List.length_cons, List.length_nil]; omega) ?_
  refine Tot.bind (s_9copy hX hm (by omega)) ?_
  rintro _ ⟨v, rfl, hv, hvl⟩
  repeat (first | ((with_reducible refine Tot.rI (n := ?_) ?_ ?_); rotate_left; exact rfl) | ((with_reducible refine Tot.rB (n := ?_) ?_ ?_); rotate_left; exact rfl) | ((with_reducible refine Tot.rS (n := ?_) ?_ ?_); rotate_left; exact rfl) | ((with_reducible refine Tot.rM (n := ?_) ?_ ?_); rotate_left; exact rfl) | ((with_reducible refine Tot.rO (n := ?_) ?_ ?_); rotate_left; exact rfl) | ((with_reducible refine Tot.dI (n := ?_) ?_ ?_); rotate_left; exact rfl) | ((with_reducible refine Tot.dB (n := ?_) ?_ ?_); rotate_left; exact rfl) | ((with_reducible refine Tot.dS (n := ?_) ?_ ?_); rotate_left; exact rfl) | ((with_reducible refine Tot.dL (n := ?_) (f := ?_) ?_ ?_); rotate_left 2; exact rfl))
  refine Tot.chk (by simp only [List.length_append, List.length_cons, List.length_nil]; omega) ?_
  have hf : Fts ((u ++ [[iD i, iD k, iD q, sD nm, .s true p]]) ++ v) := (hu.app (Fts.one ⟨_, _, _, _, _, _, rfl, hp, hpl, hnm⟩)).app hv
  have hfl : ((u ++ [[iD i, iD k, iD q, sD nm, .s true p]]) ++ v).length ≤ l.length + 1 := by simp only [List.length_append, List.length_cons, List.length_nil]; omega
  refine Tot.bind (s_issource hX hf.old.1 (by rw [hf.old.2]; omega)) ?_
  rintro _ ⟨_, rfl⟩
  repeat (first | ((with_reducible refine Tot.rI (n := ?_) ?_ ?_); rotate_left; exact rfl) | ((with_reducible refine Tot.rB (n := ?_) ?_ ?_); rotate_left; exact rfl) | ((with_reducible refine Tot.rS (n := ?_) ?_ ?_); rotate_left; exact rfl) | ((with_reducible refine Tot.rM (n := ?_) ?_ ?_); rotate_left; exact rfl) | ((with_reducible refine Tot.rO (n := ?_) ?_ ?_); rotate_left; exact rfl) | ((with_reducible refine Tot.dI (n := ?_) ?_ ?_); rotate_left; exact rfl) | ((with_reducible refine Tot.dB (n := ?_) ?_ ?_); rotate_left; exact rfl) | ((with_reducible refine Tot.dS (n := ?_) ?_ ?_); rotate_left; exact rfl) | ((with_reducible refine Tot.dL (n := ?_) (f := ?_) ?_ ?_); rotate_left 2; exact rfl))
  refine Tot.cond (fun _ => ?_) fun _ => .some ⟨_, _, rfl, hf, hfl⟩
  refine Tot.bind (s_9copy hX hl (by omega)) ?_
  rintro _ ⟨v, rfl, hv, hvl⟩
  repeat (first | ((with_reducible refine Tot.rI (n := ?_) ?_ ?_); rotate_left; exact rfl) | ((with_reducible refine Tot.rB (n := ?_) ?_ ?_); rotate_left; exact rfl) | ((with_reducible refine Tot.rS (n := ?_) ?_ ?_); rotate_left; exact rfl) | ((with_reducible refine Tot.rM (n := ?_) ?_ ?_); rotate_left; exact rfl) | ((with_reducible refine Tot.rO (n := ?_) ?_ ?_); rotate_left; exact rfl) | ((with_reducible refine Tot.dI (n := ?_) ?_ ?_); rotate_left; exact rfl) | ((with_reducible refine Tot.dB (n := ?_) ?_ ?_); rotate_left; exact rfl) | ((with_reducible refine Tot.dS (n := ?_) ?_ ?_); rotate_left; exact rfl) | ((with_reducible refine Tot.dL (n := ?_) (f := ?_) ?_ ?_); rotate_left 2; exact rfl))
  exact .some ⟨_, _, rfl, hv, by omega⟩
theorem s_put {l : List Rw} {i k q : Int} {nm : ByteArray} {p : List Rw} (hl : Fts l) (hn : l.length ≤ 500) (hp : Po p) (hpl : p.length ≤ 100) (hnm : nm.size ≤ 100) : Tot (VV 134 [.c (.s false l), .agg [iD i, iD k, iD q, sD nm, .s false p]]) fun r => ∃ l' b, r = [.own l', bR b] ∧ Fts l' ∧ l'.length ≤ l.length + 1 := by
  rw [b134 hX, e134]
  suffices h : ∀ (n : Nat) (j : Int), 0 ≤ j → j ≤ l.length → l.length - j ≤ n → Tot (VP 134 2 (s134_2 l j i k q nm p)) fun r => ∃ l' b, r = [.own l', bR b] ∧ Fts l' ∧ l'.length ≤ l.length + 1 from h l.length 0 (by omega) (by omega) (by omega)
  intro n
  have tail : ∀ j : Int, 0 ≤ j → j ≤ l.length → ∀ m, m = (l.drop j.toNat).take ((l.length : Int).toNat - j.toNat) → Fts m ∧ j + m.length ≤ l.length := by
    rintro j j0 j1 m rfl
    refine ⟨hl.sub fun r hr => List.mem_of_mem_drop (List.mem_of_mem_take hr), ?_⟩
    rw [List.length_take, List.length_drop]; omega
  induction n with
  | zero =>
    intro j j0 j1 jk
    rw [p134 hX, e134_2]
    obtain ⟨hm, hml⟩ := tail j j0 j1 _ rfl
    generalize (l.drop j.toNat).take ((l.length : Int).toNat - j.toNat) = m at hm hml ⊢
    refine Tot.cond (fun hx => ?_) fun hx => Tot.chk ⟨by omega, hl.five⟩ (Tot.cond (fun h0 => ?_) fun _ => s_put7 hX hl hn hm (by omega) hp hpl hnm j0 hml)
    · simp only [decide_eq_true_eq] at hx; omega
    · simp only [decide_eq_true_eq] at h0; omega
  | succ n ih =>
    intro j j0 j1 jk
    rw [p134 hX, e134_2]
    obtain ⟨hm, hml⟩ := tail j j0 j1 _ rfl
    generalize (l.drop j.toNat).take ((l.length : Int).toNat - j.toNat) = m at hm hml ⊢
    have hd : ∀ m' : List Rw, m' = (m.drop 1).take ((m.length : Int).toNat - 1) → Fts m' ∧ j + m'.length ≤ l.length ∧ m'.length ≤ m.length := by
      rintro m' rfl
      refine ⟨hm.sub fun r hr => List.mem_of_mem_drop (List.mem_of_mem_take hr), ?_⟩
      rw [List.length_take, List.length_drop]; omega
    obtain ⟨hm', hml', hmm⟩ := hd _ rfl
    generalize (m.drop 1).take ((m.length : Int).toNat - 1) = m' at hm' hml' hmm ⊢
    have fin : Tot (cond (decide ((m.length : Int) > 0)) ((getE 5 m 0).bind fun r3 => (dI .i64 r3[0]?).bind fun n4 => cond (n4 == i) ((chk (((0 : Int) ≤ (1 : Int) ∧ (1 : Int) ≤ (m.length : Int) ∧ (m.length : Int) ≤ (m.length : Int)) ∧ ∀ r ∈ m, r.length = 5)).bind fun _ => VP 134 7 (s134_7 l j m' i k q nm p)) (VP 134 7 (s134_7 l j m i k q nm p))) (VP 134 7 (s134_7 l j m i k q nm p))) fun r => ∃ l' b, r = [.own l', bR b] ∧ Fts l' ∧ l'.length ≤ l.length + 1 := by
      refine Tot.cond (fun h0 => ?_) fun _ => s_put7 hX hl hn hm (by omega) hp hpl hnm j0 hml
      simp only [decide_eq_true_eq] at h0
      refine Tot.getE (by omega) (by omega) hm.five fun r _ hr => ?_
      obtain ⟨_, _, _, _, _, _, rfl, _⟩ := hm r hr
      repeat (first | ((with_reducible refine Tot.rI (n := ?_) ?_ ?_); rotate_left; exact rfl) | ((with_reducible refine Tot.rB (n := ?_) ?_ ?_); rotate_left; exact rfl) | ((with_reducible refine Tot.rS (n := ?_) ?_ ?_); rotate_left; exact rfl) | ((with_reducible refine Tot.rM (n := ?_) ?_ ?_); rotate_left; exact rfl) | ((with_reducible refine Tot.rO (n := ?_) ?_ ?_); rotate_left; exact rfl) | ((with_reducible refine Tot.dI (n := ?_) ?_ ?_); rotate_left; exact rfl) | ((with_reducible refine Tot.dB (n := ?_) ?_ ?_); rotate_left; exact rfl) | ((with_reducible refine Tot.dS (n := ?_) ?_ ?_); rotate_left; exact rfl) | ((with_reducible refine Tot.dL (n := ?_) (f := ?_) ?_ ?_); rotate_left 2; exact rfl))
      refine Tot.cond (fun _ => Tot.chk ⟨by omega, hm.five⟩ ?_) fun _ => s_put7 hX hl hn hm (by omega) hp hpl hnm j0 hml
      exact s_put7 hX hl hn hm' (by omega) hp hpl hnm j0 hml'
    refine Tot.cond (fun hx => ?_) fun hx => Tot.chk ⟨by omega, hl.five⟩ fin
    simp only [decide_eq_true_eq] at hx
    refine Tot.getE j0 hx hl.five fun r _ hr => ?_
    obtain ⟨_, _, _, _, _, _, rfl, _⟩ := hl r hr
    repeat (first | ((with_reducible refine Tot.rI (n := ?_) ?_ ?_); rotate_left; exact rfl) | ((with_reducible refine Tot.rB (n := ?_) ?_ ?_); rotate_left; exact rfl) | ((with_reducible refine Tot.rS (n := ?_) ?_ ?_); rotate_left; exact rfl) | ((with_reducible refine Tot.rM (n := ?_) ?_ ?_); rotate_left; exact rfl) | ((with_reducible refine Tot.rO (n := ?_) ?_ ?_); rotate_left; exact rfl) | ((with_reducible refine Tot.dI (n := ?_) ?_ ?_); rotate_left; exact rfl) | ((with_reducible refine Tot.dB (n := ?_) ?_ ?_); rotate_left; exact rfl) | ((with_reducible refine Tot.dS (n := ?_) ?_ ?_); rotate_left; exact rfl) | ((with_reducible refine Tot.dL (n := ?_) (f := ?_) ?_ ?_); rotate_left 2; exact rfl))
    refine Tot.cond (fun _ => ?_) fun _ => Tot.chk ⟨by omega, hl.five⟩ fin
    rw [w64 (x := j + 1) (by omega) (by omega)]
    exact ih _ (by omega) (by omega) (by omega)
theorem t_9source {bs : List Rw} {i h : Int} (hc : Cu bs i) : Tot (VV 97 [.box [.s false bs, iD i, iD h]]) fun r => ∃ l' i' h', r = [.own l', .im bs, iR i', iR h'] ∧ Cu bs i' ∧ Fts l' ∧ l'.length ≤ 20 := by
  rw [b97 hX, e97]
  suffices hh : ∀ (k : Nat) (n i h : Int) (l : List Rw), Cu bs i → Fts l → (l.length + 1 : Int) ≤ n → 1 ≤ n → n ≤ 7 → 7 - n ≤ k → Tot (VP 97 3 (s97_3 n l bs i h)) fun r => ∃ l' i' h', r = [.own l', .im bs, iR i', iR h'] ∧ Cu bs i' ∧ Fts l' ∧ l'.length ≤ 20 from hh 6 1 i h [] hc Fts.nil (by simp) (by omega) (by omega) (by omega)
  intro k
  induction k with
  | zero =>
    intro n i h l hc hl h0 h1 h2 hk
    rw [p97 hX, e97_3]
    refine Tot.bind (t_below hX hc) ?_
    rintro _ ⟨x, i, h, rfl, hc, hx, hy, -⟩
    repeat (first | ((with_reducible refine Tot.rI (n := ?_) ?_ ?_); rotate_left; exact rfl) | ((with_reducible refine Tot.rB (n := ?_) ?_ ?_); rotate_left; exact rfl) | ((with_reducible refine Tot.rS (n := ?_) ?_ ?_); rotate_left; exact rfl) | ((with_reducible refine Tot.rM (n := ?_) ?_ ?_); rotate_left; exact rfl) | ((with_reducible refine Tot.rO (n := ?_) ?_ ?_); rotate_left; exact rfl) | ((with_reducible refine Tot.dI (n := ?_) ?_ ?_); rotate_left; exact rfl) | ((with_reducible refine Tot.dB (n := ?_) ?_ ?_); rotate_left; exact rfl) | ((with_reducible refine Tot.dS (n := ?_) ?_ ?_); rotate_left; exact rfl) | ((with_reducible refine Tot.dL (n := ?_) (f := ?_) ?_ ?_); rotate_left 2; exact rfl))
    have := hy (by omega)
    rw [w64 (x := 1 + x) (by omega) (by omega)]
    refine Tot.cond (fun hx => ?_) fun hx => .some ⟨_, _, _, rfl, hc, hl, by omega⟩
    simp only [decide_eq_true_eq] at hx; omega
  | succ k ih =>
    intro n i h l hc hl h0 h1 h2 hk
    rw [p97 hX, e97_3]
    refine Tot.bind (t_below hX hc) ?_
    rintro _ ⟨x, i, h, rfl, hc, hx, hy, -⟩
    repeat (first | ((with_reducible refine Tot.rI (n := ?_) ?_ ?_); rotate_left; exact rfl) | ((with_reducible refine Tot.rB (n := ?_) ?_ ?_); rotate_left; exact rfl) | ((with_reducible refine Tot.rS (n := ?_) ?_ ?_); rotate_left; exact rfl) | ((with_reducible refine Tot.rM (n := ?_) ?_ ?_); rotate_left; exact rfl) | ((with_reducible refine Tot.rO (n := ?_) ?_ ?_); rotate_left; exact rfl) | ((with_reducible refine Tot.dI (n := ?_) ?_ ?_); rotate_left; exact rfl) | ((with_reducible refine Tot.dB (n := ?_) ?_ ?_); rotate_left; exact rfl) | ((with_reducible refine Tot.dS (n := ?_) ?_ ?_); rotate_left; exact rfl) | ((with_reducible refine Tot.dL (n := ?_) (f := ?_) ?_ ?_); rotate_left 2; exact rfl))
    have := hy (by omega)
    rw [w64 (x := 1 + x) (by omega) (by omega), w64 (x := n + 1) (by omega) (by omega)]
    refine Tot.cond (fun hx => ?_) fun hx => .some ⟨_, _, _, rfl, hc, hl, by omega⟩
    simp only [decide_eq_true_eq] at hx
    refine Tot.bind (t_9draw hX hc) ?_
    rintro _ ⟨k', q, nm, p, i, h, rfl, hc, hp, hp0, hpl, hnm⟩
    repeat (first | ((with_reducible refine Tot.rI (n := ?_) ?_ ?_); rotate_left; exact rfl) | ((with_reducible refine Tot.rB (n := ?_) ?_ ?_); rotate_left; exact rfl) | ((with_reducible refine Tot.rS (n := ?_) ?_ ?_); rotate_left; exact rfl) | ((with_reducible refine Tot.rM (n := ?_) ?_ ?_); rotate_left; exact rfl) | ((with_reducible refine Tot.rO (n := ?_) ?_ ?_); rotate_left; exact rfl) | ((with_reducible refine Tot.dI (n := ?_) ?_ ?_); rotate_left; exact rfl) | ((with_reducible refine Tot.dB (n := ?_) ?_ ?_); rotate_left; exact rfl) | ((with_reducible refine Tot.dS (n := ?_) ?_ ?_); rotate_left; exact rfl) | ((with_reducible refine Tot.dL (n := ?_) (f := ?_) ?_ ?_); rotate_left 2; exact rfl))
    rw [hp.old]
    refine Tot.bind (s_put hX hl.old.1 (by rw [hl.old.2]; omega) hp (by omega) hnm) ?_
    rintro _ ⟨l', b, rfl, hl', hll⟩
    repeat (first | ((with_reducible refine Tot.rI (n := ?_) ?_ ?_); rotate_left; exact rfl) | ((with_reducible refine Tot.rB (n := ?_) ?_ ?_); rotate_left; exact rfl) | ((with_reducible refine Tot.rS (n := ?_) ?_ ?_); rotate_left; exact rfl) | ((with_reducible refine Tot.rM (n := ?_) ?_ ?_); rotate_left; exact rfl) | ((with_reducible refine Tot.rO (n := ?_) ?_ ?_); rotate_left; exact rfl) | ((with_reducible refine Tot.dI (n := ?_) ?_ ?_); rotate_left; exact rfl) | ((with_reducible refine Tot.dB (n := ?_) ?_ ?_); rotate_left; exact rfl) | ((with_reducible refine Tot.dS (n := ?_) ?_ ?_); rotate_left; exact rfl) | ((with_reducible refine Tot.dL (n := ?_) (f := ?_) ?_ ?_); rotate_left 2; exact rfl))
    rw [hl.old.2] at hll
    exact ih _ _ _ _ hc hl' (by omega) (by omega) (by omega) (by omega)
theorem t_9any {bs : List Rw} {i h : Int} (hc : Cu bs i) : Tot (VV 53 [.box [.s false bs, iD i, iD h]]) fun r => ∃ l' i' h', r = [.own l', .im bs, iR i', iR h'] ∧ Cu bs i' ∧ Fts l' ∧ l'.length ≤ 20 := by
  rw [b53 hX, e53]
  refine Tot.bind (t_9source hX hc) ?_
  rintro _ ⟨l, i, h, rfl, hc, hl, hll⟩
  repeat (first | ((with_reducible refine Tot.rI (n := ?_) ?_ ?_); rotate_left; exact rfl) | ((with_reducible refine Tot.rB (n := ?_) ?_ ?_); rotate_left; exact rfl) | ((with_reducible refine Tot.rS (n := ?_) ?_ ?_); rotate_left; exact rfl) | ((with_reducible refine Tot.rM (n := ?_) ?_ ?_); rotate_left; exact rfl) | ((with_reducible refine Tot.rO (n := ?_) ?_ ?_); rotate_left; exact rfl) | ((with_reducible refine Tot.dI (n := ?_) ?_ ?_); rotate_left; exact rfl) | ((with_reducible refine Tot.dB (n := ?_) ?_ ?_); rotate_left; exact rfl) | ((with_reducible refine Tot.dS (n := ?_) ?_ ?_); rotate_left; exact rfl) | ((with_reducible refine Tot.dL (n := ?_) (f := ?_) ?_ ?_); rotate_left 2; exact rfl))
  refine Tot.cond (fun _ => .some ⟨_, _, _, rfl, hc, hl, hll⟩) fun h0 => ?_
  have h0 : ¬ (l.length : Int) = 0 := fun he => by rw [he] at h0; exact absurd h0 (by decide)
  refine Tot.bind (t_below hX hc) ?_
  rintro _ ⟨n, i, h, rfl, hc, hn, hn2, -⟩
  repeat (first | ((with_reducible refine Tot.rI (n := ?_) ?_ ?_); rotate_left; exact rfl) | ((with_reducible refine Tot.rB (n := ?_) ?_ ?_); rotate_left; exact rfl) | ((with_reducible refine Tot.rS (n := ?_) ?_ ?_); rotate_left; exact rfl) | ((with_reducible refine Tot.rM (n := ?_) ?_ ?_); rotate_left; exact rfl) | ((with_reducible refine Tot.rO (n := ?_) ?_ ?_); rotate_left; exact rfl) | ((with_reducible refine Tot.dI (n := ?_) ?_ ?_); rotate_left; exact rfl) | ((with_reducible refine Tot.dB (n := ?_) ?_ ?_); rotate_left; exact rfl) | ((with_reducible refine Tot.dS (n := ?_) ?_ ?_); rotate_left; exact rfl) | ((with_reducible refine Tot.dL (n := ?_) (f := ?_) ?_ ?_); rotate_left 2; exact rfl))
  have hn2 := hn2 (by omega)
  refine Tot.bind (t_below hX hc) ?_
  rintro _ ⟨x, i, h, rfl, hc, -⟩
  repeat (first | ((with_reducible refine Tot.rI (n := ?_) ?_ ?_); rotate_left; exact rfl) | ((with_reducible refine Tot.rB (n := ?_) ?_ ?_); rotate_left; exact rfl) | ((with_reducible refine Tot.rS (n := ?_) ?_ ?_); rotate_left; exact rfl) | ((with_reducible refine Tot.rM (n := ?_) ?_ ?_); rotate_left; exact rfl) | ((with_reducible refine Tot.rO (n := ?_) ?_ ?_); rotate_left; exact rfl) | ((with_reducible refine Tot.dI (n := ?_) ?_ ?_); rotate_left; exact rfl) | ((with_reducible refine Tot.dB (n := ?_) ?_ ?_); rotate_left; exact rfl) | ((with_reducible refine Tot.dS (n := ?_) ?_ ?_); rotate_left; exact rfl) | ((with_reducible refine Tot.dL (n := ?_) (f := ?_) ?_ ?_); rotate_left 2; exact rfl))
  refine Tot.cond (fun _ => ?_) fun _ => Tot.cond (fun _ => ?_) fun _ => Tot.cond (fun _ => ?_) fun _ => Tot.cond (fun _ => ?_) fun _ => Tot.cond (fun _ => ?_) fun _ => .some ⟨_, _, _, rfl, hc, hl, hll⟩
  · refine Tot.bind (t_int hX hc rfl (by decide)) ?_
    rintro _ ⟨y, i, h, rfl, hc, -⟩
    repeat (first | ((with_reducible refine Tot.rI (n := ?_) ?_ ?_); rotate_left; exact rfl) | ((with_reducible refine Tot.rB (n := ?_) ?_ ?_); rotate_left; exact rfl) | ((with_reducible refine Tot.rS (n := ?_) ?_ ?_); rotate_left; exact rfl) | ((with_reducible refine Tot.rM (n := ?_) ?_ ?_); rotate_left; exact rfl) | ((with_reducible refine Tot.rO (n := ?_) ?_ ?_); rotate_left; exact rfl) | ((with_reducible refine Tot.dI (n := ?_) ?_ ?_); rotate_left; exact rfl) | ((with_reducible refine Tot.dB (n := ?_) ?_ ?_); rotate_left; exact rfl) | ((with_reducible refine Tot.dS (n := ?_) ?_ ?_); rotate_left; exact rfl) | ((with_reducible refine Tot.dL (n := ?_) (f := ?_) ?_ ?_); rotate_left 2; exact rfl))
    refine Tot.chk (by omega) (Tot.get (by omega) fun r _ hr => ?_)
    obtain ⟨_, _, _, _, _, _, rfl, hp, hpl, hnm⟩ := hl r hr
    exact .some ⟨_, _, _, rfl, hc, Fts.set hl ⟨_, _, _, _, _, _, rfl, hp, hpl, hnm⟩, by rw [List.length_set]; exact hll⟩
  · refine Tot.bind (t_int hX hc rfl (by decide)) ?_
    rintro _ ⟨y, i, h, rfl, hc, -⟩
    repeat (first | ((with_reducible refine Tot.rI (n := ?_) ?_ ?_); rotate_left; exact rfl) | ((with_reducible refine Tot.rB (n := ?_) ?_ ?_); rotate_left; exact rfl) | ((with_reducible refine Tot.rS (n := ?_) ?_ ?_); rotate_left; exact rfl) | ((with_reducible refine Tot.rM (n := ?_) ?_ ?_); rotate_left; exact rfl) | ((with_reducible refine Tot.rO (n := ?_) ?_ ?_); rotate_left; exact rfl) | ((with_reducible refine Tot.dI (n := ?_) ?_ ?_); rotate_left; exact rfl) | ((with_reducible refine Tot.dB (n := ?_) ?_ ?_); rotate_left; exact rfl) | ((with_reducible refine Tot.dS (n := ?_) ?_ ?_); rotate_left; exact rfl) | ((with_reducible refine Tot.dL (n := ?_) (f := ?_) ?_ ?_); rotate_left 2; exact rfl))
    refine Tot.chk (by omega) (Tot.get (by omega) fun r _ hr => ?_)
    obtain ⟨_, _, _, _, _, _, rfl, hp, hpl, hnm⟩ := hl r hr
    exact .some ⟨_, _, _, rfl, hc, Fts.set hl ⟨_, _, _, _, _, _, rfl, hp, hpl, hnm⟩, by rw [List.length_set]; exact hll⟩
  · refine Tot.bind (t_str hX hc rfl (by decide)) ?_
    rintro _ ⟨y, i, h, rfl, hc, hy⟩
    repeat (first | ((with_reducible refine Tot.rI (n := ?_) ?_ ?_); rotate_left; exact rfl) | ((with_reducible refine Tot.rB (n := ?_) ?_ ?_); rotate_left; exact rfl) | ((with_reducible refine Tot.rS (n := ?_) ?_ ?_); rotate_left; exact rfl) | ((with_reducible refine Tot.rM (n := ?_) ?_ ?_); rotate_left; exact rfl) | ((with_reducible refine Tot.rO (n := ?_) ?_ ?_); rotate_left; exact rfl) | ((with_reducible refine Tot.dI (n := ?_) ?_ ?_); rotate_left; exact rfl) | ((with_reducible refine Tot.dB (n := ?_) ?_ ?_); rotate_left; exact rfl) | ((with_reducible refine Tot.dS (n := ?_) ?_ ?_); rotate_left; exact rfl) | ((with_reducible refine Tot.dL (n := ?_) (f := ?_) ?_ ?_); rotate_left 2; exact rfl))
    refine Tot.chk (by omega) (Tot.get (by omega) fun r _ hr => ?_)
    obtain ⟨_, _, _, _, _, _, rfl, hp, hpl, hnm⟩ := hl r hr
    exact .some ⟨_, _, _, rfl, hc, Fts.set hl ⟨_, _, _, _, _, _, rfl, hp, hpl, hy⟩, by rw [List.length_set]; exact hll⟩
  · refine Tot.bind (t_int hX hc rfl (by decide)) ?_
    rintro _ ⟨y, i, h, rfl, hc, -⟩
    repeat (first | ((with_reducible refine Tot.rI (n := ?_) ?_ ?_); rotate_left; exact rfl) | ((with_reducible refine Tot.rB (n := ?_) ?_ ?_); rotate_left; exact rfl) | ((with_reducible refine Tot.rS (n := ?_) ?_ ?_); rotate_left; exact rfl) | ((with_reducible refine Tot.rM (n := ?_) ?_ ?_); rotate_left; exact rfl) | ((with_reducible refine Tot.rO (n := ?_) ?_ ?_); rotate_left; exact rfl) | ((with_reducible refine Tot.dI (n := ?_) ?_ ?_); rotate_left; exact rfl) | ((with_reducible refine Tot.dB (n := ?_) ?_ ?_); rotate_left; exact rfl) | ((with_reducible refine Tot.dS (n := ?_) ?_ ?_); rotate_left; exact rfl) | ((with_reducible refine Tot.dL (n := ?_) (f := ?_) ?_ ?_); rotate_left 2; exact rfl))
    refine Tot.chk (by omega) (Tot.get (by omega) fun r _ hr => ?_)
    obtain ⟨_, _, _, _, _, _, rfl, hp, hpl, hnm⟩ := hl r hr
    exact .some ⟨_, _, _, rfl, hc, Fts.set hl ⟨_, _, _, _, _, _, rfl, hp, hpl, hnm⟩, by rw [List.length_set]; exact hll⟩
  · refine Tot.bind (t_6any hX hc) ?_
    rintro _ ⟨y, i, h, rfl, hc, hy, hyl⟩
    repeat (first | ((with_reducible refine Tot.rI (n := ?_) ?_ ?_); rotate_left; exact rfl) | ((with_reducible refine Tot.rB (n := ?_) ?_ ?_); rotate_left; exact rfl) | ((with_reducible refine Tot.rS (n := ?_) ?_ ?_); rotate_left; exact rfl) | ((with_reducible refine Tot.rM (n := ?_) ?_ ?_); rotate_left; exact rfl) | ((with_reducible refine Tot.rO (n := ?_) ?_ ?_); rotate_left; exact rfl) | ((with_reducible refine Tot.dI (n := ?_) ?_ ?_); rotate_left; exact rfl) | ((with_reducible refine Tot.dB (n := ?_) ?_ ?_); rotate_left; exact rfl) | ((with_reducible refine Tot.dS (n := ?_) ?_ ?_); rotate_left; exact rfl) | ((with_reducible refine Tot.dL (n := ?_) (f := ?_) ?_ ?_); rotate_left 2; exact rfl))
    refine Tot.chk (by omega) (Tot.get (by omega) fun r _ hr => ?_)
    obtain ⟨_, _, _, _, _, _, rfl, hp, hpl, hnm⟩ := hl r hr
    exact .some ⟨_, _, _, rfl, hc, Fts.set hl ⟨_, _, _, _, _, _, rfl, hy, by omega, hnm⟩, by rw [List.length_set]; exact hll⟩
theorem t_DrawSeenIds {bs : List Rw} (hb : Code8 bs) : Tot (VV 12 [.c (.s false bs)]) fun r => ∃ l' x y z u, r = [.own l', iR x, iR y, iR z, iR u] ∧ Fts l' ∧ l'.length ≤ 20 := by
  rw [b12 hX, e12]
  refine Tot.bind (t_new hX hb) ?_
  rintro _ ⟨h, rfl⟩
  repeat (first | ((with_reducible refine Tot.rI (n := ?_) ?_ ?_); rotate_left; exact rfl) | ((with_reducible refine Tot.rB (n := ?_) ?_ ?_); rotate_left; exact rfl) | ((with_reducible refine Tot.rS (n := ?_) ?_ ?_); rotate_left; exact rfl) | ((with_reducible refine Tot.rM (n := ?_) ?_ ?_); rotate_left; exact rfl) | ((with_reducible refine Tot.rO (n := ?_) ?_ ?_); rotate_left; exact rfl) | ((with_reducible refine Tot.dI (n := ?_) ?_ ?_); rotate_left; exact rfl) | ((with_reducible refine Tot.dB (n := ?_) ?_ ?_); rotate_left; exact rfl) | ((with_reducible refine Tot.dS (n := ?_) ?_ ?_); rotate_left; exact rfl) | ((with_reducible refine Tot.dL (n := ?_) (f := ?_) ?_ ?_); rotate_left 2; exact rfl))
  refine Tot.bind (t_9any hX (Code8.cu hb)) ?_
  rintro _ ⟨l, i, h, rfl, hc, hl, hll⟩
  repeat (first | ((with_reducible refine Tot.rI (n := ?_) ?_ ?_); rotate_left; exact rfl) | ((with_reducible refine Tot.rB (n := ?_) ?_ ?_); rotate_left; exact rfl) | ((with_reducible refine Tot.rS (n := ?_) ?_ ?_); rotate_left; exact rfl) | ((with_reducible refine Tot.rM (n := ?_) ?_ ?_); rotate_left; exact rfl) | ((with_reducible refine Tot.rO (n := ?_) ?_ ?_); rotate_left; exact rfl) | ((with_reducible refine Tot.dI (n := ?_) ?_ ?_); rotate_left; exact rfl) | ((with_reducible refine Tot.dB (n := ?_) ?_ ?_); rotate_left; exact rfl) | ((with_reducible refine Tot.dS (n := ?_) ?_ ?_); rotate_left; exact rfl) | ((with_reducible refine Tot.dL (n := ?_) (f := ?_) ?_ ?_); rotate_left 2; exact rfl))
  refine Tot.bind (t_38draw hX hc) ?_
  rintro _ ⟨x, y, z, u, i, h, rfl, hc⟩
  repeat (first | ((with_reducible refine Tot.rI (n := ?_) ?_ ?_); rotate_left; exact rfl) | ((with_reducible refine Tot.rB (n := ?_) ?_ ?_); rotate_left; exact rfl) | ((with_reducible refine Tot.rS (n := ?_) ?_ ?_); rotate_left; exact rfl) | ((with_reducible refine Tot.rM (n := ?_) ?_ ?_); rotate_left; exact rfl) | ((with_reducible refine Tot.rO (n := ?_) ?_ ?_); rotate_left; exact rfl) | ((with_reducible refine Tot.dI (n := ?_) ?_ ?_); rotate_left; exact rfl) | ((with_reducible refine Tot.dB (n := ?_) ?_ ?_); rotate_left; exact rfl) | ((with_reducible refine Tot.dS (n := ?_) ?_ ?_); rotate_left; exact rfl) | ((with_reducible refine Tot.dL (n := ?_) (f := ?_) ?_ ?_); rotate_left 2; exact rfl))
  exact .some ⟨_, _, _, _, _, rfl, hl, hll⟩
end
end Go.Proofs.YtoiefmhmohhaeaaGreat.VE
/- The program's checks: points, windows, boxes. -/
set_option linter.unusedVariables false
set_option linter.unusedSimpArgs false
namespace Go.Proofs.YtoiefmhmohhaeaaGreat.VE

def inR (a b c : Int) : Bool := decide (b ≤ a ∧ a ≤ c)
def isPt (a b : Int) : Bool := decide (0 ≤ a ∧ a ≤ 200 ∧ 0 ≤ b ∧ b ≤ 200)
def isWin (a b s v : Int) : Bool := decide (0 ≤ a ∧ 0 ≤ b ∧ 1 ≤ s ∧ a + s ≤ 200 ∧ b + s ≤ 200 ∧ 0 ≤ v ∧ v ≤ 4)
def isBx (a b c d : Int) : Bool := decide (0 ≤ a ∧ a ≤ c ∧ c ≤ 200 ∧ 0 ≤ b ∧ b ≤ d ∧ d ≤ 200)
def isSg (a b c d : Int) : Bool := decide (isPt a b = true ∧ isPt c d = true ∧ ¬ (a = c ∧ b = d))
theorem isPt_iff {a b : Int} : isPt a b = true ↔ 0 ≤ a ∧ a ≤ 200 ∧ 0 ≤ b ∧ b ≤ 200 := decide_eq_true_iff
theorem isWin_iff {a b s v : Int} : isWin a b s v = true ↔ 0 ≤ a ∧ 0 ≤ b ∧ 1 ≤ s ∧ a + s ≤ 200 ∧ b + s ≤ 200 ∧ 0 ≤ v ∧ v ≤ 4 := decide_eq_true_iff
theorem isBx_iff {a b c d : Int} : isBx a b c d = true ↔ 0 ≤ a ∧ a ≤ c ∧ c ≤ 200 ∧ 0 ≤ b ∧ b ≤ d ∧ d ≤ 200 := decide_eq_true_iff
theorem isSg_iff {a b c d : Int} : isSg a b c d = true ↔ isPt a b = true ∧ isPt c d = true ∧ ¬ (a = c ∧ b = d) := decide_eq_true_iff
theorem bool_iff {a b : Bool} (h : a = true ↔ b = true) : a = b := by cases a <;> cases b <;> simp_all
/-- A bool comes out, and it is true just when. -/
abbrev TP (x : Option (List RC)) (p : Prop) : Prop := Tot x fun r => ∃ b, r = [bR b] ∧ (b = true ↔ p)
theorem TP.t {p : Prop} (h : p) : TP (some [bR true]) p := .some ⟨_, rfl, by simp [h]⟩
theorem TP.f {p : Prop} (h : ¬ p) : TP (some [bR false]) p := .some ⟨_, rfl, by simp [h]⟩
theorem TP.d {p q : Prop} [Decidable q] (h : q ↔ p) : TP (some [bR (decide q)]) p := .some ⟨_, rfl, by simp [h]⟩
theorem TP.b {p : Prop} {b : Bool} (h : b = true ↔ p) : TP (some [bR b]) p := .some ⟨_, rfl, h⟩

section
variable (hX : ExtFin tE)
include hX

theorem i_in {a b c : Int} : TP (VV 49 [.c (iD a), .c (iD b), .c (iD c)]) (b ≤ a ∧ a ≤ c) := by
  rw [b49 hX, e49]
  refine Tot.cond (fun h => ?_) fun h => ?_
  · simp only [decide_eq_true_eq] at h
    exact TP.d (by omega)
  · simp only [decide_eq_false_iff_not] at h
    exact TP.f (by omega)
theorem i_pt {a b : Int} : TP (VV 51 [.agg [iD a, iD b]]) (isPt a b = true) := by
  rw [b51 hX, e51]
  refine Tot.bind (i_in hX) ?_
  rintro _ ⟨u, rfl, hu⟩
  repeat (first | ((with_reducible refine Tot.rI (n := ?_) ?_ ?_); rotate_left; exact rfl) | ((with_reducible refine Tot.rB (n := ?_) ?_ ?_); rotate_left; exact rfl) | ((with_reducible refine Tot.rS (n := ?_) ?_ ?_); rotate_left; exact rfl) | ((with_reducible refine Tot.rM (n := ?_) ?_ ?_); rotate_left; exact rfl) | ((with_reducible refine Tot.rO (n := ?_) ?_ ?_); rotate_left; exact rfl) | ((with_reducible refine Tot.dI (n := ?_) ?_ ?_); rotate_left; exact rfl) | ((with_reducible refine Tot.dB (n := ?_) ?_ ?_); rotate_left; exact rfl) | ((with_reducible refine Tot.dS (n := ?_) ?_ ?_); rotate_left; exact rfl) | ((with_reducible refine Tot.dL (n := ?_) (f := ?_) ?_ ?_); rotate_left 2; exact rfl))
  refine Tot.cond (fun h => ?_) fun h => ?_
  · subst h
    refine Tot.bind (i_in hX) ?_
    rintro _ ⟨v, rfl, hv⟩
    repeat (first | ((with_reducible refine Tot.rI (n := ?_) ?_ ?_); rotate_left; exact rfl) | ((with_reducible refine Tot.rB (n := ?_) ?_ ?_); rotate_left; exact rfl) | ((with_reducible refine Tot.rS (n := ?_) ?_ ?_); rotate_left; exact rfl) | ((with_reducible refine Tot.rM (n := ?_) ?_ ?_); rotate_left; exact rfl) | ((with_reducible refine Tot.rO (n := ?_) ?_ ?_); rotate_left; exact rfl) | ((with_reducible refine Tot.dI (n := ?_) ?_ ?_); rotate_left; exact rfl) | ((with_reducible refine Tot.dB (n := ?_) ?_ ?_); rotate_left; exact rfl) | ((with_reducible refine Tot.dS (n := ?_) ?_ ?_); rotate_left; exact rfl) | ((with_reducible refine Tot.dL (n := ?_) (f := ?_) ?_ ?_); rotate_left 2; exact rfl))
    exact TP.b (by rw [hv, isPt_iff]; have := hu.mp rfl; omega)
  · subst h
    exact TP.f (by rw [isPt_iff]; intro h; exact absurd (hu.mpr (by omega)) (by decide))
theorem i_win {a b s v : Int} : TP (VV 9 [.agg [iD a, iD b, iD s, iD v]]) (isWin a b s v = true) := by
  rw [b9 hX, e9]
  refine Tot.bind (i_pt hX) ?_
  rintro _ ⟨u, rfl, hu⟩
  repeat (first | ((with_reducible refine Tot.rI (n := ?_) ?_ ?_); rotate_left; exact rfl) | ((with_reducible refine Tot.rB (n := ?_) ?_ ?_); rotate_left; exact rfl) | ((with_reducible refine Tot.rS (n := ?_) ?_ ?_); rotate_left; exact rfl) | ((with_reducible refine Tot.rM (n := ?_) ?_ ?_); rotate_left; exact rfl) | ((with_reducible refine Tot.rO (n := ?_) ?_ ?_); rotate_left; exact rfl) | ((with_reducible refine Tot.dI (n := ?_) ?_ ?_); rotate_left; exact rfl) | ((with_reducible refine Tot.dB (n := ?_) ?_ ?_); rotate_left; exact rfl) | ((with_reducible refine Tot.dS (n := ?_) ?_ ?_); rotate_left; exact rfl) | ((with_reducible refine Tot.dL (n := ?_) (f := ?_) ?_ ?_); rotate_left 2; exact rfl))
  rw [isPt_iff] at hu
  refine Tot.cond (fun h => ?_) fun h => ?_
  · subst h
    have hu := hu.mp rfl
    refine Tot.bind (i_in hX) ?_
    rintro _ ⟨w, rfl, hw⟩
    repeat (first | ((with_reducible refine Tot.rI (n := ?_) ?_ ?_); rotate_left; exact rfl) | ((with_reducible refine Tot.rB (n := ?_) ?_ ?_); rotate_left; exact rfl) | ((with_reducible refine Tot.rS (n := ?_) ?_ ?_); rotate_left; exact rfl) | ((with_reducible refine Tot.rM (n := ?_) ?_ ?_); rotate_left; exact rfl) | ((with_reducible refine Tot.rO (n := ?_) ?_ ?_); rotate_left; exact rfl) | ((with_reducible refine Tot.dI (n := ?_) ?_ ?_); rotate_left; exact rfl) | ((with_reducible refine Tot.dB (n := ?_) ?_ ?_); rotate_left; exact rfl) | ((with_reducible refine Tot.dS (n := ?_) ?_ ?_); rotate_left; exact rfl) | ((with_reducible refine Tot.dL (n := ?_) (f := ?_) ?_ ?_); rotate_left 2; exact rfl))
    refine Tot.cond (fun h => ?_) fun h => ?_
    · subst h
      have hw := hw.mp rfl
      rw [w64 (x := a + s) (by omega) (by omega), w64 (x := b + s) (by omega) (by omega)]
      refine Tot.cond (fun h => Tot.cond (fun h2 => ?_) fun h2 => ?_) fun h => ?_
      · simp only [decide_eq_true_eq] at h h2
        refine Tot.bind (i_in hX) ?_
        rintro _ ⟨w, rfl, hw⟩
        repeat (first | ((with_reducible refine Tot.rI (n := ?_) ?_ ?_); rotate_left; exact rfl) | ((with_reducible refine Tot.rB (n := ?_) ?_ ?_); rotate_left; exact rfl) | ((with_reducible refine Tot.rS (n := ?_) ?_ ?_); rotate_left; exact rfl) | ((with_reducible refine Tot.rM (n := ?_) ?_ ?_); rotate_left; exact rfl) | ((with_reducible refine Tot.rO (n := ?_) ?_ ?_); rotate_left; exact rfl) | ((with_reducible refine Tot.dI (n := ?_) ?_ ?_); rotate_left; exact rfl) | ((with_reducible refine Tot.dB (n := ?_) ?_ ?_); rotate_left; exact rfl) | ((with_reducible refine Tot.dS (n := ?_) ?_ ?_); rotate_left; exact rfl) | ((with_reducible refine Tot.dL (n := ?_) (f := ?_) ?_ ?_); rotate_left 2; exact rfl))
        exact TP.b (by rw [hw, isWin_iff]; omega)
      · simp only [decide_eq_false_iff_not] at h2
        exact TP.f (by rw [isWin_iff]; omega)
      · simp only [decide_eq_false_iff_not] at h
        exact TP.f (by rw [isWin_iff]; omega)
    · subst h
      exact TP.f (by rw [isWin_iff]; intro h; exact absurd (hw.mpr (by omega)) (by decide))
  · subst h
    exact TP.f (by rw [isWin_iff]; intro h; exact absurd (hu.mpr (by omega)) (by decide))
theorem i_within {a b : Int} : Tot (VV 50 [.c (iD a), .c (iD b)]) fun r => ∃ c, r = [iR c] ∧ 0 ≤ c ∧ (0 ≤ b → c ≤ b) := by
  rw [b50 hX, e50]
  exact .some ⟨_, rfl, by split <;> omega, by split <;> split <;> omega⟩
theorem i_pan {a b s v dx dy : Int} : Tot (VV 8 [.agg [iD a, iD b, iD s, iD v], .c (iD dx), .c (iD dy)]) fun r => ∃ a' b', r = [iR a', iR b', iR s, iR v] ∧ isWin a' b' s v = isWin a b s v := by
  rw [b8 hX, e8]
  refine Tot.bind (i_win hX) ?_
  rintro _ ⟨u, rfl, hu⟩
  repeat (first | ((with_reducible refine Tot.rI (n := ?_) ?_ ?_); rotate_left; exact rfl) | ((with_reducible refine Tot.rB (n := ?_) ?_ ?_); rotate_left; exact rfl) | ((with_reducible refine Tot.rS (n := ?_) ?_ ?_); rotate_left; exact rfl) | ((with_reducible refine Tot.rM (n := ?_) ?_ ?_); rotate_left; exact rfl) | ((with_reducible refine Tot.rO (n := ?_) ?_ ?_); rotate_left; exact rfl) | ((with_reducible refine Tot.dI (n := ?_) ?_ ?_); rotate_left; exact rfl) | ((with_reducible refine Tot.dB (n := ?_) ?_ ?_); rotate_left; exact rfl) | ((with_reducible refine Tot.dS (n := ?_) ?_ ?_); rotate_left; exact rfl) | ((with_reducible refine Tot.dL (n := ?_) (f := ?_) ?_ ?_); rotate_left 2; exact rfl))
  refine Tot.cond (fun h => .some ⟨_, _, rfl, rfl⟩) fun h => ?_
  have h : u = true := by cases u <;> simp_all
  subst h
  have hw := hu.mp rfl
  have hw' := isWin_iff.mp hw
  refine Tot.bind (i_in hX) ?_
  rintro _ ⟨x, rfl, hx⟩
  repeat (first | ((with_reducible refine Tot.rI (n := ?_) ?_ ?_); rotate_left; exact rfl) | ((with_reducible refine Tot.rB (n := ?_) ?_ ?_); rotate_left; exact rfl) | ((with_reducible refine Tot.rS (n := ?_) ?_ ?_); rotate_left; exact rfl) | ((with_reducible refine Tot.rM (n := ?_) ?_ ?_); rotate_left; exact rfl) | ((with_reducible refine Tot.rO (n := ?_) ?_ ?_); rotate_left; exact rfl) | ((with_reducible refine Tot.dI (n := ?_) ?_ ?_); rotate_left; exact rfl) | ((with_reducible refine Tot.dB (n := ?_) ?_ ?_); rotate_left; exact rfl) | ((with_reducible refine Tot.dS (n := ?_) ?_ ?_); rotate_left; exact rfl) | ((with_reducible refine Tot.dL (n := ?_) (f := ?_) ?_ ?_); rotate_left 2; exact rfl))
  refine Tot.cond (fun h => .some ⟨_, _, rfl, rfl⟩) fun h => ?_
  refine Tot.bind (i_in hX) ?_
  rintro _ ⟨x, rfl, hx⟩
  repeat (first | ((with_reducible refine Tot.rI (n := ?_) ?_ ?_); rotate_left; exact rfl) | ((with_reducible refine Tot.rB (n := ?_) ?_ ?_); rotate_left; exact rfl) | ((with_reducible refine Tot.rS (n := ?_) ?_ ?_); rotate_left; exact rfl) | ((with_reducible refine Tot.rM (n := ?_) ?_ ?_); rotate_left; exact rfl) | ((with_reducible refine Tot.rO (n := ?_) ?_ ?_); rotate_left; exact rfl) | ((with_reducible refine Tot.dI (n := ?_) ?_ ?_); rotate_left; exact rfl) | ((with_reducible refine Tot.dB (n := ?_) ?_ ?_); rotate_left; exact rfl) | ((with_reducible refine Tot.dS (n := ?_) ?_ ?_); rotate_left; exact rfl) | ((with_reducible refine Tot.dL (n := ?_) (f := ?_) ?_ ?_); rotate_left 2; exact rfl))
  refine Tot.cond (fun h => .some ⟨_, _, rfl, rfl⟩) fun h => ?_
  rw [p8 hX, e8_3, w64 (x := 200 - s) (by omega) (by omega)]
  refine Tot.bind (i_within hX) ?_
  rintro _ ⟨x, rfl, h0, h1⟩
  repeat (first | ((with_reducible refine Tot.rI (n := ?_) ?_ ?_); rotate_left; exact rfl) | ((with_reducible refine Tot.rB (n := ?_) ?_ ?_); rotate_left; exact rfl) | ((with_reducible refine Tot.rS (n := ?_) ?_ ?_); rotate_left; exact rfl) | ((with_reducible refine Tot.rM (n := ?_) ?_ ?_); rotate_left; exact rfl) | ((with_reducible refine Tot.rO (n := ?_) ?_ ?_); rotate_left; exact rfl) | ((with_reducible refine Tot.dI (n := ?_) ?_ ?_); rotate_left; exact rfl) | ((with_reducible refine Tot.dB (n := ?_) ?_ ?_); rotate_left; exact rfl) | ((with_reducible refine Tot.dS (n := ?_) ?_ ?_); rotate_left; exact rfl) | ((with_reducible refine Tot.dL (n := ?_) (f := ?_) ?_ ?_); rotate_left 2; exact rfl))
  refine Tot.bind (i_within hX) ?_
  rintro _ ⟨y, rfl, h2, h3⟩
  repeat (first | ((with_reducible refine Tot.rI (n := ?_) ?_ ?_); rotate_left; exact rfl) | ((with_reducible refine Tot.rB (n := ?_) ?_ ?_); rotate_left; exact rfl) | ((with_reducible refine Tot.rS (n := ?_) ?_ ?_); rotate_left; exact rfl) | ((with_reducible refine Tot.rM (n := ?_) ?_ ?_); rotate_left; exact rfl) | ((with_reducible refine Tot.rO (n := ?_) ?_ ?_); rotate_left; exact rfl) | ((with_reducible refine Tot.dI (n := ?_) ?_ ?_); rotate_left; exact rfl) | ((with_reducible refine Tot.dB (n := ?_) ?_ ?_); rotate_left; exact rfl) | ((with_reducible refine Tot.dS (n := ?_) ?_ ?_); rotate_left; exact rfl) | ((with_reducible refine Tot.dL (n := ?_) (f := ?_) ?_ ?_); rotate_left 2; exact rfl))
  have h1 := h1 (by omega)
  have h3 := h3 (by omega)
  exact .some ⟨_, _, rfl, by rw [hw]; exact isWin_iff.mpr (by omega)⟩
theorem i_zoom {a b s v : Int} {z : Bool} : Tot (VV 11 [.agg [iD a, iD b, iD s, iD v], .c (bD z)]) fun r => ∃ a' b' s' v', r = [iR a', iR b', iR s', iR v'] ∧ isWin a' b' s' v' = isWin a b s v ∧ (z = true → s' ≤ s) ∧ (z = false → s ≤ s') := by
  rw [b11 hX, e11]
  refine Tot.bind (i_win hX) ?_
  rintro _ ⟨u, rfl, hu⟩
  repeat (first | ((with_reducible refine Tot.rI (n := ?_) ?_ ?_); rotate_left; exact rfl) | ((with_reducible refine Tot.rB (n := ?_) ?_ ?_); rotate_left; exact rfl) | ((with_reducible refine Tot.rS (n := ?_) ?_ ?_); rotate_left; exact rfl) | ((with_reducible refine Tot.rM (n := ?_) ?_ ?_); rotate_left; exact rfl) | ((with_reducible refine Tot.rO (n := ?_) ?_ ?_); rotate_left; exact rfl) | ((with_reducible refine Tot.dI (n := ?_) ?_ ?_); rotate_left; exact rfl) | ((with_reducible refine Tot.dB (n := ?_) ?_ ?_); rotate_left; exact rfl) | ((with_reducible refine Tot.dS (n := ?_) ?_ ?_); rotate_left; exact rfl) | ((with_reducible refine Tot.dL (n := ?_) (f := ?_) ?_ ?_); rotate_left 2; exact rfl))
  refine Tot.cond (fun h => .some ⟨_, _, _, _, rfl, rfl, by omega, by omega⟩) fun h => ?_
  have h : u = true := by cases u <;> simp_all
  subst h
  have hw := hu.mp rfl
  have hw' := isWin_iff.mp hw
  refine Tot.cond (fun h => ?_) fun h => ?_
  · refine Tot.chk (by omega) ?_
    subst h
    rw [w64 (x := s + 1) (by omega) (by omega), w64 (x := v - 1) (by omega) (by omega), Int.tdiv_eq_ediv_of_nonneg (by omega), w64 (x := (s + 1) / 2) (by omega) (by omega)]
    exact .some ⟨_, _, _, _, rfl, by rw [hw]; exact isWin_iff.mpr (by split <;> omega), by omega, by intro h; cases h⟩
  · subst h
    rw [w64 (x := 2 * s) (by omega) (by omega), w64 (x := v + 1) (by omega) (by omega)]
    have hs : ∃ q : Int, q = (if (200 : Int) < 2 * s then 200 else 2 * s) ∧ s ≤ q ∧ q ≤ 200 := ⟨_, rfl, by split <;> omega, by split <;> omega⟩
    obtain ⟨q, hq, h4, h5⟩ := hs
    rw [← hq, w64 (x := 200 - q) (by omega) (by omega)]
    refine Tot.bind (i_within hX) ?_
    rintro _ ⟨x, rfl, h0, h1⟩
    repeat (first | ((with_reducible refine Tot.rI (n := ?_) ?_ ?_); rotate_left; exact rfl) | ((with_reducible refine Tot.rB (n := ?_) ?_ ?_); rotate_left; exact rfl) | ((with_reducible refine Tot.rS (n := ?_) ?_ ?_); rotate_left; exact rfl) | ((with_reducible refine Tot.rM (n := ?_) ?_ ?_); rotate_left; exact rfl) | ((with_reducible refine Tot.rO (n := ?_) ?_ ?_); rotate_left; exact rfl) | ((with_reducible refine Tot.dI (n := ?_) ?_ ?_); rotate_left; exact rfl) | ((with_reducible refine Tot.dB (n := ?_) ?_ ?_); rotate_left; exact rfl) | ((with_reducible refine Tot.dS (n := ?_) ?_ ?_); rotate_left; exact rfl) | ((with_reducible refine Tot.dL (n := ?_) (f := ?_) ?_ ?_); rotate_left 2; exact rfl))
    refine Tot.bind (i_within hX) ?_
    rintro _ ⟨y, rfl, h2, h3⟩
    repeat (first | ((with_reducible refine Tot.rI (n := ?_) ?_ ?_); rotate_left; exact rfl) | ((with_reducible refine Tot.rB (n := ?_) ?_ ?_); rotate_left; exact rfl) | ((with_reducible refine Tot.rS (n := ?_) ?_ ?_); rotate_left; exact rfl) | ((with_reducible refine Tot.rM (n := ?_) ?_ ?_); rotate_left; exact rfl) | ((with_reducible refine Tot.rO (n := ?_) ?_ ?_); rotate_left; exact rfl) | ((with_reducible refine Tot.dI (n := ?_) ?_ ?_); rotate_left; exact rfl) | ((with_reducible refine Tot.dB (n := ?_) ?_ ?_); rotate_left; exact rfl) | ((with_reducible refine Tot.dS (n := ?_) ?_ ?_); rotate_left; exact rfl) | ((with_reducible refine Tot.dL (n := ?_) (f := ?_) ?_ ?_); rotate_left 2; exact rfl))
    have h1 := h1 (by omega)
    have h3 := h3 (by omega)
    exact .some ⟨_, _, _, _, rfl, by rw [hw]; exact isWin_iff.mpr (by split <;> omega), (by intro h; cases h), fun _ => h4⟩
theorem i_bx {a b c d : Int} : TP (VV 103 [.agg [iD a, iD b, iD c, iD d]]) (isBx a b c d = true) := by
  rw [b103 hX, e103]
  refine Tot.bind (i_pt hX) ?_
  rintro _ ⟨u, rfl, hu⟩
  repeat (first | ((with_reducible refine Tot.rI (n := ?_) ?_ ?_); rotate_left; exact rfl) | ((with_reducible refine Tot.rB (n := ?_) ?_ ?_); rotate_left; exact rfl) | ((with_reducible refine Tot.rS (n := ?_) ?_ ?_); rotate_left; exact rfl) | ((with_reducible refine Tot.rM (n := ?_) ?_ ?_); rotate_left; exact rfl) | ((with_reducible refine Tot.rO (n := ?_) ?_ ?_); rotate_left; exact rfl) | ((with_reducible refine Tot.dI (n := ?_) ?_ ?_); rotate_left; exact rfl) | ((with_reducible refine Tot.dB (n := ?_) ?_ ?_); rotate_left; exact rfl) | ((with_reducible refine Tot.dS (n := ?_) ?_ ?_); rotate_left; exact rfl) | ((with_reducible refine Tot.dL (n := ?_) (f := ?_) ?_ ?_); rotate_left 2; exact rfl))
  rw [isPt_iff] at hu
  refine Tot.cond (fun h => ?_) fun h => ?_
  · subst h
    have hu := hu.mp rfl
    refine Tot.bind (i_pt hX) ?_
    rintro _ ⟨w, rfl, hw⟩
    repeat (first | ((with_reducible refine Tot.rI (n := ?_) ?_ ?_); rotate_left; exact rfl) | ((with_reducible refine Tot.rB (n := ?_) ?_ ?_); rotate_left; exact rfl) | ((with_reducible refine Tot.rS (n := ?_) ?_ ?_); rotate_left; exact rfl) | ((with_reducible refine Tot.rM (n := ?_) ?_ ?_); rotate_left; exact rfl) | ((with_reducible refine Tot.rO (n := ?_) ?_ ?_); rotate_left; exact rfl) | ((with_reducible refine Tot.dI (n := ?_) ?_ ?_); rotate_left; exact rfl) | ((with_reducible refine Tot.dB (n := ?_) ?_ ?_); rotate_left; exact rfl) | ((with_reducible refine Tot.dS (n := ?_) ?_ ?_); rotate_left; exact rfl) | ((with_reducible refine Tot.dL (n := ?_) (f := ?_) ?_ ?_); rotate_left 2; exact rfl))
    rw [isPt_iff] at hw
    refine Tot.cond (fun h => ?_) fun h => ?_
    · subst h
      have hw := hw.mp rfl
      refine Tot.cond (fun h => ?_) fun h => ?_
      · simp only [decide_eq_true_eq] at h
        exact TP.d (by rw [isBx_iff]; omega)
      · simp only [decide_eq_false_iff_not] at h
        exact TP.f (by rw [isBx_iff]; omega)
    · subst h
      exact TP.f (by rw [isBx_iff]; intro h; exact absurd (hw.mpr (by omega)) (by decide))
  · subst h
    exact TP.f (by rw [isBx_iff]; intro h; exact absurd (hu.mpr (by omega)) (by decide))
theorem i_inbox {a b c d x y : Int} : TP (VV 99 [.agg [iD a, iD b, iD c, iD d], .agg [iD x, iD y]]) (isBx a b c d = true ∧ a ≤ x ∧ x ≤ c ∧ b ≤ y ∧ y ≤ d) := by
  rw [b99 hX, e99]
  refine Tot.bind (i_bx hX) ?_
  rintro _ ⟨u, rfl, hu⟩
  repeat (first | ((with_reducible refine Tot.rI (n := ?_) ?_ ?_); rotate_left; exact rfl) | ((with_reducible refine Tot.rB (n := ?_) ?_ ?_); rotate_left; exact rfl) | ((with_reducible refine Tot.rS (n := ?_) ?_ ?_); rotate_left; exact rfl) | ((with_reducible refine Tot.rM (n := ?_) ?_ ?_); rotate_left; exact rfl) | ((with_reducible refine Tot.rO (n := ?_) ?_ ?_); rotate_left; exact rfl) | ((with_reducible refine Tot.dI (n := ?_) ?_ ?_); rotate_left; exact rfl) | ((with_reducible refine Tot.dB (n := ?_) ?_ ?_); rotate_left; exact rfl) | ((with_reducible refine Tot.dS (n := ?_) ?_ ?_); rotate_left; exact rfl) | ((with_reducible refine Tot.dL (n := ?_) (f := ?_) ?_ ?_); rotate_left 2; exact rfl))
  refine Tot.cond (fun h => ?_) fun h => ?_
  · subst h
    have hu := hu.mp rfl
    refine Tot.bind (i_in hX) ?_
    rintro _ ⟨w, rfl, hw⟩
    repeat (first | ((with_reducible refine Tot.rI (n := ?_) ?_ ?_); rotate_left; exact rfl) | ((with_reducible refine Tot.rB (n := ?_) ?_ ?_); rotate_left; exact rfl) | ((with_reducible refine Tot.rS (n := ?_) ?_ ?_); rotate_left; exact rfl) | ((with_reducible refine Tot.rM (n := ?_) ?_ ?_); rotate_left; exact rfl) | ((with_reducible refine Tot.rO (n := ?_) ?_ ?_); rotate_left; exact rfl) | ((with_reducible refine Tot.dI (n := ?_) ?_ ?_); rotate_left; exact rfl) | ((with_reducible refine Tot.dB (n := ?_) ?_ ?_); rotate_left; exact rfl) | ((with_reducible refine Tot.dS (n := ?_) ?_ ?_); rotate_left; exact rfl) | ((with_reducible refine Tot.dL (n := ?_) (f := ?_) ?_ ?_); rotate_left 2; exact rfl))
    refine Tot.cond (fun h => ?_) fun h => ?_
    · subst h
      have hw := hw.mp rfl
      refine Tot.bind (i_in hX) ?_
      rintro _ ⟨v, rfl, hv⟩
      repeat (first | ((with_reducible refine Tot.rI (n := ?_) ?_ ?_); rotate_left; exact rfl) | ((with_reducible refine Tot.rB (n := ?_) ?_ ?_); rotate_left; exact rfl) | ((with_reducible refine Tot.rS (n := ?_) ?_ ?_); rotate_left; exact rfl) | ((with_reducible refine Tot.rM (n := ?_) ?_ ?_); rotate_left; exact rfl) | ((with_reducible refine Tot.rO (n := ?_) ?_ ?_); rotate_left; exact rfl) | ((with_reducible refine Tot.dI (n := ?_) ?_ ?_); rotate_left; exact rfl) | ((with_reducible refine Tot.dB (n := ?_) ?_ ?_); rotate_left; exact rfl) | ((with_reducible refine Tot.dS (n := ?_) ?_ ?_); rotate_left; exact rfl) | ((with_reducible refine Tot.dL (n := ?_) (f := ?_) ?_ ?_); rotate_left 2; exact rfl))
      exact TP.b (by rw [hv]; simp only [hu, true_and]; omega)
    · subst h
      exact TP.f (by rintro ⟨_, h⟩; exact absurd (hw.mpr (by omega)) (by decide))
  · subst h
    exact TP.f (by rintro ⟨h, _⟩; exact absurd (hu.mpr h) (by decide))
theorem i_sg {a b c d : Int} : TP (VV 138 [.agg [iD a, iD b, iD c, iD d]]) (isSg a b c d = true) := by
  rw [b138 hX, e138]
  refine Tot.bind (i_pt hX) ?_
  rintro _ ⟨u, rfl, hu⟩
  repeat (first | ((with_reducible refine Tot.rI (n := ?_) ?_ ?_); rotate_left; exact rfl) | ((with_reducible refine Tot.rB (n := ?_) ?_ ?_); rotate_left; exact rfl) | ((with_reducible refine Tot.rS (n := ?_) ?_ ?_); rotate_left; exact rfl) | ((with_reducible refine Tot.rM (n := ?_) ?_ ?_); rotate_left; exact rfl) | ((with_reducible refine Tot.rO (n := ?_) ?_ ?_); rotate_left; exact rfl) | ((with_reducible refine Tot.dI (n := ?_) ?_ ?_); rotate_left; exact rfl) | ((with_reducible refine Tot.dB (n := ?_) ?_ ?_); rotate_left; exact rfl) | ((with_reducible refine Tot.dS (n := ?_) ?_ ?_); rotate_left; exact rfl) | ((with_reducible refine Tot.dL (n := ?_) (f := ?_) ?_ ?_); rotate_left 2; exact rfl))
  refine Tot.cond (fun h => ?_) fun h => ?_
  · subst h
    have hu := hu.mp rfl
    refine Tot.bind (i_pt hX) ?_
    rintro _ ⟨w, rfl, hw⟩
    repeat (first | ((with_reducible refine Tot.rI (n := ?_) ?_ ?_); rotate_left; exact rfl) | ((with_reducible refine Tot.rB (n := ?_) ?_ ?_); rotate_left; exact rfl) | ((with_reducible refine Tot.rS (n := ?_) ?_ ?_); rotate_left; exact rfl) | ((with_reducible refine Tot.rM (n := ?_) ?_ ?_); rotate_left; exact rfl) | ((with_reducible refine Tot.rO (n := ?_) ?_ ?_); rotate_left; exact rfl) | ((with_reducible refine Tot.dI (n := ?_) ?_ ?_); rotate_left; exact rfl) | ((with_reducible refine Tot.dB (n := ?_) ?_ ?_); rotate_left; exact rfl) | ((with_reducible refine Tot.dS (n := ?_) ?_ ?_); rotate_left; exact rfl) | ((with_reducible refine Tot.dL (n := ?_) (f := ?_) ?_ ?_); rotate_left 2; exact rfl))
    refine Tot.cond (fun h => ?_) fun h => ?_
    · subst h
      have hw := hw.mp rfl
      exact TP.b (by rw [isSg_iff]; simp [hu, hw]; omega)
    · subst h
      exact TP.f (by rw [isSg_iff]; rintro ⟨_, h, _⟩; exact absurd (hw.mpr h) (by decide))
  · subst h
    exact TP.f (by rw [isSg_iff]; rintro ⟨h, _⟩; exact absurd (hu.mpr h) (by decide))
def minI (a b : Int) : Int := if b < a then b else a
def maxI (a b : Int) : Int := if b > a then b else a
theorem i_common {a b c d a' b' c' d' : Int} (h : isBx a b c d = true) (h' : isBx a' b' c' d' = true) : Tot (VV 102 [.agg [iD a, iD b, iD c, iD d], .agg [iD a', iD b', iD c', iD d']]) fun r => r = [iR (minI c c' - maxI a a'), iR (minI d d' - maxI b b')] := by
  rw [b102 hX, e102]
  rw [isBx_iff] at h h'
  have e1 : IntKind.wrap .i64 (minI c c' - maxI a a') = minI c c' - maxI a a' := by unfold minI maxI; split <;> split <;> exact w64 (by omega) (by omega)
  have e2 : IntKind.wrap .i64 (minI d d' - maxI b b') = minI d d' - maxI b b' := by unfold minI maxI; split <;> split <;> exact w64 (by omega) (by omega)
  refine .some ?_
  rw [← e1, ← e2]
  rfl
theorem i_common0 {a b c d a' b' c' d' : Int} : Tot (VV 102 [.agg [iD a, iD b, iD c, iD d], .agg [iD a', iD b', iD c', iD d']]) fun r => ∃ x y, r = [iR x, iR y] := by
  rw [b102 hX, e102]
  exact .some ⟨_, _, rfl⟩
theorem i_boxesmeet {a b c d a' b' c' d' : Int} : TP (VV 140 [.agg [iD a, iD b, iD c, iD d], .agg [iD a', iD b', iD c', iD d']]) (isBx a b c d = true ∧ isBx a' b' c' d' = true ∧ 0 ≤ minI c c' - maxI a a' ∧ 0 ≤ minI d d' - maxI b b') := by
  rw [b140 hX, e140]
  obtain ⟨r, hr, x, y, rfl⟩ := i_common0 hX (a := a) (b := b) (c := c) (d := d) (a' := a') (b' := b') (c' := c') (d' := d')
  have hh := i_common hX (a := a) (b := b) (c := c) (d := d) (a' := a') (b' := b') (c' := c') (d' := d')
  rw [hr] at hh
  rw [hr]
  refine Tot.bind (.some rfl) ?_
  rintro _ rfl
  repeat (first | ((with_reducible refine Tot.rI (n := ?_) ?_ ?_); rotate_left; exact rfl) | ((with_reducible refine Tot.rB (n := ?_) ?_ ?_); rotate_left; exact rfl) | ((with_reducible refine Tot.rS (n := ?_) ?_ ?_); rotate_left; exact rfl) | ((with_reducible refine Tot.rM (n := ?_) ?_ ?_); rotate_left; exact rfl) | ((with_reducible refine Tot.rO (n := ?_) ?_ ?_); rotate_left; exact rfl) | ((with_reducible refine Tot.dI (n := ?_) ?_ ?_); rotate_left; exact rfl) | ((with_reducible refine Tot.dB (n := ?_) ?_ ?_); rotate_left; exact rfl) | ((with_reducible refine Tot.dS (n := ?_) ?_ ?_); rotate_left; exact rfl) | ((with_reducible refine Tot.dL (n := ?_) (f := ?_) ?_ ?_); rotate_left 2; exact rfl))
  refine Tot.bind (i_bx hX) ?_
  rintro _ ⟨u, rfl, hu⟩
  repeat (first | ((with_reducible refine Tot.rI (n := ?_) ?_ ?_); rotate_left; exact rfl) | ((with_reducible refine Tot.rB (n := ?_) ?_ ?_); rotate_left; exact rfl) | ((with_reducible refine Tot.rS (n := ?_) ?_ ?_); rotate_left; exact rfl) | ((with_reducible refine Tot.rM (n := ?_) ?_ ?_); rotate_left; exact rfl) | ((with_reducible refine Tot.rO (n := ?_) ?_ ?_); rotate_left; exact rfl) | ((with_reducible refine Tot.dI (n := ?_) ?_ ?_); rotate_left; exact rfl) | ((with_reducible refine Tot.dB (n := ?_) ?_ ?_); rotate_left; exact rfl) | ((with_reducible refine Tot.dS (n := ?_) ?_ ?_); rotate_left; exact rfl) | ((with_reducible refine Tot.dL (n := ?_) (f := ?_) ?_ ?_); rotate_left 2; exact rfl))
  refine Tot.cond (fun h => ?_) fun h => ?_
  · subst h
    have hu := hu.mp rfl
    refine Tot.bind (i_bx hX) ?_
    rintro _ ⟨v, rfl, hv⟩
    repeat (first | ((with_reducible refine Tot.rI (n := ?_) ?_ ?_); rotate_left; exact rfl) | ((with_reducible refine Tot.rB (n := ?_) ?_ ?_); rotate_left; exact rfl) | ((with_reducible refine Tot.rS (n := ?_) ?_ ?_); rotate_left; exact rfl) | ((with_reducible refine Tot.rM (n := ?_) ?_ ?_); rotate_left; exact rfl) | ((with_reducible refine Tot.rO (n := ?_) ?_ ?_); rotate_left; exact rfl) | ((with_reducible refine Tot.dI (n := ?_) ?_ ?_); rotate_left; exact rfl) | ((with_reducible refine Tot.dB (n := ?_) ?_ ?_); rotate_left; exact rfl) | ((with_reducible refine Tot.dS (n := ?_) ?_ ?_); rotate_left; exact rfl) | ((with_reducible refine Tot.dL (n := ?_) (f := ?_) ?_ ?_); rotate_left 2; exact rfl))
    refine Tot.cond (fun h => ?_) fun h => ?_
    · subst h
      have hv := hv.mp rfl
      obtain ⟨_, h1, h2⟩ := hh hu hv
      have h3 := (Option.some.inj h1).trans h2
      simp only [List.cons.injEq, RC.v.injEq, Value.int.injEq, true_and, and_true] at h3
      obtain ⟨rfl, rfl⟩ := h3
      simp only [hu, hv, true_and]
      refine Tot.cond (fun h => ?_) fun h => ?_
      · simp only [decide_eq_true_eq] at h
        exact TP.d (by omega)
      · simp only [decide_eq_false_iff_not] at h
        exact TP.f (by omega)
    · subst h
      exact TP.f (by rintro ⟨_, h, _⟩; exact absurd (hv.mpr h) (by decide))
  · subst h
    exact TP.f (by rintro ⟨h, _⟩; exact absurd (hu.mpr h) (by decide))
theorem i_boxesoverlap {a b c d a' b' c' d' : Int} : TP (VV 57 [.agg [iD a, iD b, iD c, iD d], .agg [iD a', iD b', iD c', iD d']]) (isBx a b c d = true ∧ isBx a' b' c' d' = true ∧ 0 < minI c c' - maxI a a' ∧ 0 < minI d d' - maxI b b') := by
  rw [b57 hX, e57]
  obtain ⟨r, hr, x, y, rfl⟩ := i_common0 hX (a := a) (b := b) (c := c) (d := d) (a' := a') (b' := b') (c' := c') (d' := d')
  have hh := i_common hX (a := a) (b := b) (c := c) (d := d) (a' := a') (b' := b') (c' := c') (d' := d')
  rw [hr] at hh
  rw [hr]
  refine Tot.bind (.some rfl) ?_
  rintro _ rfl
  repeat (first | ((with_reducible refine Tot.rI (n := ?_) ?_ ?_); rotate_left; exact rfl) | ((with_reducible refine Tot.rB (n := ?_) ?_ ?_); rotate_left; exact rfl) | ((with_reducible refine Tot.rS (n := ?_) ?_ ?_); rotate_left; exact rfl) | ((with_reducible refine Tot.rM (n := ?_) ?_ ?_); rotate_left; exact rfl) | ((with_reducible refine Tot.rO (n := ?_) ?_ ?_); rotate_left; exact rfl) | ((with_reducible refine Tot.dI (n := ?_) ?_ ?_); rotate_left; exact rfl) | ((with_reducible refine Tot.dB (n := ?_) ?_ ?_); rotate_left; exact rfl) | ((with_reducible refine Tot.dS (n := ?_) ?_ ?_); rotate_left; exact rfl) | ((with_reducible refine Tot.dL (n := ?_) (f := ?_) ?_ ?_); rotate_left 2; exact rfl))
  refine Tot.bind (i_bx hX) ?_
  rintro _ ⟨u, rfl, hu⟩
  repeat (first | ((with_reducible refine Tot.rI (n := ?_) ?_ ?_); rotate_left; exact rfl) | ((with_reducible refine Tot.rB (n := ?_) ?_ ?_); rotate_left; exact rfl) | ((with_reducible refine Tot.rS (n := ?_) ?_ ?_); rotate_left; exact rfl) | ((with_reducible refine Tot.rM (n := ?_) ?_ ?_); rotate_left; exact rfl) | ((with_reducible refine Tot.rO (n := ?_) ?_ ?_); rotate_left; exact rfl) | ((with_reducible refine Tot.dI (n := ?_) ?_ ?_); rotate_left; exact rfl) | ((with_reducible refine Tot.dB (n := ?_) ?_ ?_); rotate_left; exact rfl) | ((with_reducible refine Tot.dS (n := ?_) ?_ ?_); rotate_left; exact rfl) | ((with_reducible refine Tot.dL (n := ?_) (f := ?_) ?_ ?_); rotate_left 2; exact rfl))
  refine Tot.cond (fun h => ?_) fun h => ?_
  · subst h
    have hu := hu.mp rfl
    refine Tot.bind (i_bx hX) ?_
    rintro _ ⟨v, rfl, hv⟩
    repeat (first | ((with_reducible refine Tot.rI (n := ?_) ?_ ?_); rotate_left; exact rfl) | ((with_reducible refine Tot.rB (n := ?_) ?_ ?_); rotate_left; exact rfl) | ((with_reducible refine Tot.rS (n := ?_) ?_ ?_); rotate_left; exact rfl) | ((with_reducible refine Tot.rM (n := ?_) ?_ ?_); rotate_left; exact rfl) | ((with_reducible refine Tot.rO (n := ?_) ?_ ?_); rotate_left; exact rfl) | ((with_reducible refine Tot.dI (n := ?_) ?_ ?_); rotate_left; exact rfl) | ((with_reducible refine Tot.dB (n := ?_) ?_ ?_); rotate_left; exact rfl) | ((with_reducible refine Tot.dS (n := ?_) ?_ ?_); rotate_left; exact rfl) | ((with_reducible refine Tot.dL (n := ?_) (f := ?_) ?_ ?_); rotate_left 2; exact rfl))
    refine Tot.cond (fun h => ?_) fun h => ?_
    · subst h
      have hv := hv.mp rfl
      obtain ⟨_, h1, h2⟩ := hh hu hv
      have h3 := (Option.some.inj h1).trans h2
      simp only [List.cons.injEq, RC.v.injEq, Value.int.injEq, true_and, and_true] at h3
      obtain ⟨rfl, rfl⟩ := h3
      simp only [hu, hv, true_and]
      refine Tot.cond (fun h => ?_) fun h => ?_
      · simp only [decide_eq_true_eq] at h
        exact TP.d (by omega)
      · simp only [decide_eq_false_iff_not] at h
        exact TP.f (by omega)
    · subst h
      exact TP.f (by rintro ⟨_, h, _⟩; exact absurd (hv.mpr h) (by decide))
  · subst h
    exact TP.f (by rintro ⟨h, _⟩; exact absurd (hu.mpr h) (by decide))
theorem i_winbox {a b s v : Int} (h : isWin a b s v = true) : Tot (VV 55 [.agg [iD a, iD b, iD s, iD v]]) fun r => r = [iR a, iR b, iR (a + s), iR (b + s)] := by
  rw [isWin_iff] at h
  rw [b55 hX, e55, w64 (x := a + s) (by omega) (by omega), w64 (x := b + s) (by omega) (by omega)]
  exact .some rfl
theorem i_tilebox {i j : Int} (h0 : 0 ≤ i) (h1 : i ≤ 20) (h2 : 0 ≤ j) (h3 : j ≤ 20) : Tot (VV 56 [.c (iD (21 * j + i))]) fun r => r = [iR (10 * i), iR (10 * j), iR (minI (10 * i + 10) 200), iR (minI (10 * j + 10) 200), bR true] := by
  rw [b56 hX, e56]
  refine Tot.bind (i_in hX) ?_
  rintro _ ⟨u, rfl, hu⟩
  repeat (first | ((with_reducible refine Tot.rI (n := ?_) ?_ ?_); rotate_left; exact rfl) | ((with_reducible refine Tot.rB (n := ?_) ?_ ?_); rotate_left; exact rfl) | ((with_reducible refine Tot.rS (n := ?_) ?_ ?_); rotate_left; exact rfl) | ((with_reducible refine Tot.rM (n := ?_) ?_ ?_); rotate_left; exact rfl) | ((with_reducible refine Tot.rO (n := ?_) ?_ ?_); rotate_left; exact rfl) | ((with_reducible refine Tot.dI (n := ?_) ?_ ?_); rotate_left; exact rfl) | ((with_reducible refine Tot.dB (n := ?_) ?_ ?_); rotate_left; exact rfl) | ((with_reducible refine Tot.dS (n := ?_) ?_ ?_); rotate_left; exact rfl) | ((with_reducible refine Tot.dL (n := ?_) (f := ?_) ?_ ?_); rotate_left 2; exact rfl))
  refine Tot.cond (fun h => ?_) fun h => ?_
  · have h : u = false := by cases u <;> simp_all
    subst h
    exact absurd (hu.mpr (by omega)) (by decide)
  · refine Tot.chk (by omega) (Tot.chk (by omega) ?_)
    have e1 : Int.tmod (21 * j + i) 21 = i := by rw [Int.tmod_eq_emod_of_nonneg (by omega)]; omega
    have e2 : Int.tdiv (21 * j + i) 21 = j := by rw [Int.tdiv_eq_ediv_of_nonneg (by omega)]; omega
    rw [e1, e2, w64 (x := j) (by omega) (by omega), w64 (x := i * 10) (by omega) (by omega), w64 (x := j * 10) (by omega) (by omega), w64 (x := i * 10 + 10) (by omega) (by omega), w64 (x := j * 10 + 10) (by omega) (by omega), Int.mul_comm i 10, Int.mul_comm j 10]
    exact .some rfl
end
end Go.Proofs.YtoiefmhmohhaeaaGreat.VE
/- The program: a segment and a box. -/
set_option linter.unusedVariables false
set_option linter.unusedSimpArgs false
namespace Go.Proofs.YtoiefmhmohhaeaaGreat.VE

def crI (a b c d x y : Int) : Int := (c - a) * (y - b) - (d - b) * (x - a)
def sgn (n : Int) : Int := if n < 0 then -1 else if n > 0 then 1 else 0
theorem mul_abs {a b : Int} {m n : Nat} (ha : a.natAbs ≤ m) (hb : b.natAbs ≤ n) : (a * b).natAbs ≤ m * n := by
  rw [Int.natAbs_mul]; exact Nat.mul_le_mul ha hb

/-- The line meets the box. -/
def LineMeets (a b c d x0 y0 x1 y1 : Int) : Prop :=
  ¬ (0 < crI a b c d x0 y0 ∧ 0 < crI a b c d x1 y1 ∧ 0 < crI a b c d x0 y1 ∧ 0 < crI a b c d x1 y0) ∧
  ¬ (crI a b c d x0 y0 < 0 ∧ crI a b c d x1 y1 < 0 ∧ crI a b c d x0 y1 < 0 ∧ crI a b c d x1 y0 < 0)
def Meets (a b c d x0 y0 x1 y1 : Int) : Prop := isSg a b c d = true ∧ isBx x0 y0 x1 y1 = true ∧
  0 ≤ minI (maxI a c) x1 - maxI (minI a c) x0 ∧ 0 ≤ minI (maxI b d) y1 - maxI (minI b d) y0 ∧ LineMeets a b c d x0 y0 x1 y1
theorem sgn_one {n : Int} : sgn n = 1 ↔ 0 < n := by unfold sgn; split <;> (try split) <;> omega
theorem sgn_neg {n : Int} : sgn n = -1 ↔ n < 0 := by unfold sgn; split <;> (try split) <;> omega
def cnt (b : Bool) : Int := cond b 1 0
theorem cnt_4 (a b c d : Bool) : (0 + cnt a + cnt b + cnt c + cnt d < 4) ↔ ¬ (a = true ∧ b = true ∧ c = true ∧ d = true) := by
  cases a <;> cases b <;> cases c <;> cases d <;> simp [cnt]
theorem cnt_01 (a : Bool) : 0 ≤ cnt a ∧ cnt a ≤ 1 := by cases a <;> simp [cnt]

section
variable (hX : ExtFin tE)
include hX
theorem i_nan {a : Int} : Tot (VV 106 [.c (iD a)]) fun r => r = [bR false] := by
  rw [b106 hX, e106]
  exact .some (by simp)
theorem i_cmp {a : Int} : Tot (VV 62 [.c (iD a), .c (iD 0)]) fun r => r = [iR (sgn a)] := by
  rw [b62 hX, e62]
  refine Tot.bind (i_nan hX) ?_
  rintro _ rfl
  repeat (first | ((with_reducible refine Tot.rI (n := ?_) ?_ ?_); rotate_left; exact rfl) | ((with_reducible refine Tot.rB (n := ?_) ?_ ?_); rotate_left; exact rfl) | ((with_reducible refine Tot.rS (n := ?_) ?_ ?_); rotate_left; exact rfl) | ((with_reducible refine Tot.rM (n := ?_) ?_ ?_); rotate_left; exact rfl) | ((with_reducible refine Tot.rO (n := ?_) ?_ ?_); rotate_left; exact rfl) | ((with_reducible refine Tot.dI (n := ?_) ?_ ?_); rotate_left; exact rfl) | ((with_reducible refine Tot.dB (n := ?_) ?_ ?_); rotate_left; exact rfl) | ((with_reducible refine Tot.dS (n := ?_) ?_ ?_); rotate_left; exact rfl) | ((with_reducible refine Tot.dL (n := ?_) (f := ?_) ?_ ?_); rotate_left 2; exact rfl))
  refine Tot.bind (i_nan hX) ?_
  rintro _ rfl
  repeat (first | ((with_reducible refine Tot.rI (n := ?_) ?_ ?_); rotate_left; exact rfl) | ((with_reducible refine Tot.rB (n := ?_) ?_ ?_); rotate_left; exact rfl) | ((with_reducible refine Tot.rS (n := ?_) ?_ ?_); rotate_left; exact rfl) | ((with_reducible refine Tot.rM (n := ?_) ?_ ?_); rotate_left; exact rfl) | ((with_reducible refine Tot.rO (n := ?_) ?_ ?_); rotate_left; exact rfl) | ((with_reducible refine Tot.dI (n := ?_) ?_ ?_); rotate_left; exact rfl) | ((with_reducible refine Tot.dB (n := ?_) ?_ ?_); rotate_left; exact rfl) | ((with_reducible refine Tot.dS (n := ?_) ?_ ?_); rotate_left; exact rfl) | ((with_reducible refine Tot.dL (n := ?_) (f := ?_) ?_ ?_); rotate_left 2; exact rfl))
  refine Tot.cond (fun h => by cases h) fun _ => Tot.cond (fun h => by cases h) fun _ => Tot.cond (fun h => ?_) fun h => Tot.cond (fun h2 => ?_) fun h2 => ?_
  · simp only [decide_eq_true_eq] at h
    exact .some (by unfold sgn; rw [if_pos h])
  · simp only [decide_eq_true_eq, decide_eq_false_iff_not] at h h2
    exact .some (by unfold sgn; rw [if_neg h, if_pos h2])
  · simp only [decide_eq_true_eq, decide_eq_false_iff_not] at h h2
    exact .some (by unfold sgn; rw [if_neg h, if_neg h2])
theorem i_cross {a b c d x y : Int} (h : isPt a b = true) (h2 : isPt c d = true) (h3 : isPt x y = true) : Tot (VV 177 [.agg [iD a, iD b], .agg [iD c, iD d], .agg [iD x, iD y]]) fun r => r = [iR (crI a b c d x y)] := by
  rw [isPt_iff] at h h2 h3
  rw [b177 hX, e177, w64 (x := c - a) (by omega) (by omega), w64 (x := y - b) (by omega) (by omega), w64 (x := d - b) (by omega) (by omega), w64 (x := x - a) (by omega) (by omega)]
  have m1 := mul_abs (a := c - a) (b := y - b) (m := 200) (n := 200) (by omega) (by omega)
  have m2 := mul_abs (a := d - b) (b := x - a) (m := 200) (n := 200) (by omega) (by omega)
  rw [w64 (x := (c - a) * (y - b)) (by omega) (by omega), w64 (x := (d - b) * (x - a)) (by omega) (by omega), w64 (x := (c - a) * (y - b) - (d - b) * (x - a)) (by omega) (by omega)]
  exact .some rfl
theorem i_side {a b c d x y : Int} (h : isPt a b = true) (h2 : isPt c d = true) (h3 : isPt x y = true) : Tot (VV 141 [.agg [iD a, iD b], .agg [iD c, iD d], .agg [iD x, iD y]]) fun r => r = [iR (sgn (crI a b c d x y))] := by
  rw [b141 hX, e141]
  refine Tot.bind (i_pt hX) ?_
  rintro _ ⟨u, rfl, hu⟩
  repeat (first | ((with_reducible refine Tot.rI (n := ?_) ?_ ?_); rotate_left; exact rfl) | ((with_reducible refine Tot.rB (n := ?_) ?_ ?_); rotate_left; exact rfl) | ((with_reducible refine Tot.rS (n := ?_) ?_ ?_); rotate_left; exact rfl) | ((with_reducible refine Tot.rM (n := ?_) ?_ ?_); rotate_left; exact rfl) | ((with_reducible refine Tot.rO (n := ?_) ?_ ?_); rotate_left; exact rfl) | ((with_reducible refine Tot.dI (n := ?_) ?_ ?_); rotate_left; exact rfl) | ((with_reducible refine Tot.dB (n := ?_) ?_ ?_); rotate_left; exact rfl) | ((with_reducible refine Tot.dS (n := ?_) ?_ ?_); rotate_left; exact rfl) | ((with_reducible refine Tot.dL (n := ?_) (f := ?_) ?_ ?_); rotate_left 2; exact rfl))
  have hu := hu.mpr h
  subst hu
  refine Tot.cond (fun h => by cases h) fun _ => ?_
  refine Tot.bind (i_pt hX) ?_
  rintro _ ⟨u, rfl, hu⟩
  repeat (first | ((with_reducible refine Tot.rI (n := ?_) ?_ ?_); rotate_left; exact rfl) | ((with_reducible refine Tot.rB (n := ?_) ?_ ?_); rotate_left; exact rfl) | ((with_reducible refine Tot.rS (n := ?_) ?_ ?_); rotate_left; exact rfl) | ((with_reducible refine Tot.rM (n := ?_) ?_ ?_); rotate_left; exact rfl) | ((with_reducible refine Tot.rO (n := ?_) ?_ ?_); rotate_left; exact rfl) | ((with_reducible refine Tot.dI (n := ?_) ?_ ?_); rotate_left; exact rfl) | ((with_reducible refine Tot.dB (n := ?_) ?_ ?_); rotate_left; exact rfl) | ((with_reducible refine Tot.dS (n := ?_) ?_ ?_); rotate_left; exact rfl) | ((with_reducible refine Tot.dL (n := ?_) (f := ?_) ?_ ?_); rotate_left 2; exact rfl))
  have hu := hu.mpr h2
  subst hu
  refine Tot.cond (fun h => by cases h) fun _ => ?_
  refine Tot.bind (i_pt hX) ?_
  rintro _ ⟨u, rfl, hu⟩
  repeat (first | ((with_reducible refine Tot.rI (n := ?_) ?_ ?_); rotate_left; exact rfl) | ((with_reducible refine Tot.rB (n := ?_) ?_ ?_); rotate_left; exact rfl) | ((with_reducible refine Tot.rS (n := ?_) ?_ ?_); rotate_left; exact rfl) | ((with_reducible refine Tot.rM (n := ?_) ?_ ?_); rotate_left; exact rfl) | ((with_reducible refine Tot.rO (n := ?_) ?_ ?_); rotate_left; exact rfl) | ((with_reducible refine Tot.dI (n := ?_) ?_ ?_); rotate_left; exact rfl) | ((with_reducible refine Tot.dB (n := ?_) ?_ ?_); rotate_left; exact rfl) | ((with_reducible refine Tot.dS (n := ?_) ?_ ?_); rotate_left; exact rfl) | ((with_reducible refine Tot.dL (n := ?_) (f := ?_) ?_ ?_); rotate_left 2; exact rfl))
  have hu := hu.mpr h3
  subst hu
  refine Tot.cond (fun h => by cases h) fun _ => ?_
  refine Tot.bind (i_cross hX h h2 h3) ?_
  rintro _ rfl
  repeat (first | ((with_reducible refine Tot.rI (n := ?_) ?_ ?_); rotate_left; exact rfl) | ((with_reducible refine Tot.rB (n := ?_) ?_ ?_); rotate_left; exact rfl) | ((with_reducible refine Tot.rS (n := ?_) ?_ ?_); rotate_left; exact rfl) | ((with_reducible refine Tot.rM (n := ?_) ?_ ?_); rotate_left; exact rfl) | ((with_reducible refine Tot.rO (n := ?_) ?_ ?_); rotate_left; exact rfl) | ((with_reducible refine Tot.dI (n := ?_) ?_ ?_); rotate_left; exact rfl) | ((with_reducible refine Tot.dB (n := ?_) ?_ ?_); rotate_left; exact rfl) | ((with_reducible refine Tot.dS (n := ?_) ?_ ?_); rotate_left; exact rfl) | ((with_reducible refine Tot.dL (n := ?_) (f := ?_) ?_ ?_); rotate_left 2; exact rfl))
  refine Tot.bind (i_cmp hX) ?_
  rintro _ rfl
  repeat (first | ((with_reducible refine Tot.rI (n := ?_) ?_ ?_); rotate_left; exact rfl) | ((with_reducible refine Tot.rB (n := ?_) ?_ ?_); rotate_left; exact rfl) | ((with_reducible refine Tot.rS (n := ?_) ?_ ?_); rotate_left; exact rfl) | ((with_reducible refine Tot.rM (n := ?_) ?_ ?_); rotate_left; exact rfl) | ((with_reducible refine Tot.rO (n := ?_) ?_ ?_); rotate_left; exact rfl) | ((with_reducible refine Tot.dI (n := ?_) ?_ ?_); rotate_left; exact rfl) | ((with_reducible refine Tot.dB (n := ?_) ?_ ?_); rotate_left; exact rfl) | ((with_reducible refine Tot.dS (n := ?_) ?_ ?_); rotate_left; exact rfl) | ((with_reducible refine Tot.dL (n := ?_) (f := ?_) ?_ ?_); rotate_left 2; exact rfl))
  exact .some rfl
theorem i_boxof2 {a b c d : Int} (h : isPt a b = true) (h2 : isPt c d = true) : Tot (VV 139 [.c (.s false [[iD a, iD b], [iD c, iD d]])]) fun r => r = [iR (minI a c), iR (minI b d), iR (maxI a c), iR (maxI b d), bR true] := by
  rw [b139 hX, e139]
  have two : ∀ r ∈ ([[iD a, iD b], [iD c, iD d]] : List Rw), r.length = 2 := by
    intro r hr
    simp only [List.mem_cons, List.not_mem_nil, or_false] at hr
    rcases hr with rfl | rfl <;> rfl
  refine Tot.cond (fun h => by cases h) fun _ => ?_
  refine Tot.getE (by omega) (by simp) two fun r hr _ => ?_
  cases hr
  repeat (first | ((with_reducible refine Tot.rI (n := ?_) ?_ ?_); rotate_left; exact rfl) | ((with_reducible refine Tot.rB (n := ?_) ?_ ?_); rotate_left; exact rfl) | ((with_reducible refine Tot.rS (n := ?_) ?_ ?_); rotate_left; exact rfl) | ((with_reducible refine Tot.rM (n := ?_) ?_ ?_); rotate_left; exact rfl) | ((with_reducible refine Tot.rO (n := ?_) ?_ ?_); rotate_left; exact rfl) | ((with_reducible refine Tot.dI (n := ?_) ?_ ?_); rotate_left; exact rfl) | ((with_reducible refine Tot.dB (n := ?_) ?_ ?_); rotate_left; exact rfl) | ((with_reducible refine Tot.dS (n := ?_) ?_ ?_); rotate_left; exact rfl) | ((with_reducible refine Tot.dL (n := ?_) (f := ?_) ?_ ?_); rotate_left 2; exact rfl))
  refine Tot.getE (by omega) (by simp) two fun r hr _ => ?_
  cases hr
  repeat (first | ((with_reducible refine Tot.rI (n := ?_) ?_ ?_); rotate_left; exact rfl) | ((with_reducible refine Tot.rB (n := ?_) ?_ ?_); rotate_left; exact rfl) | ((with_reducible refine Tot.rS (n := ?_) ?_ ?_); rotate_left; exact rfl) | ((with_reducible refine Tot.rM (n := ?_) ?_ ?_); rotate_left; exact rfl) | ((with_reducible refine Tot.rO (n := ?_) ?_ ?_); rotate_left; exact rfl) | ((with_reducible refine Tot.dI (n := ?_) ?_ ?_); rotate_left; exact rfl) | ((with_reducible refine Tot.dB (n := ?_) ?_ ?_); rotate_left; exact rfl) | ((with_reducible refine Tot.dS (n := ?_) ?_ ?_); rotate_left; exact rfl) | ((with_reducible refine Tot.dL (n := ?_) (f := ?_) ?_ ?_); rotate_left 2; exact rfl))
  rw [p139 hX, e139_5]
  refine Tot.cond (fun _ => ?_) fun h => by cases h
  refine Tot.getE (by omega) (by simp) two fun r hr _ => ?_
  cases hr
  repeat (first | ((with_reducible refine Tot.rI (n := ?_) ?_ ?_); rotate_left; exact rfl) | ((with_reducible refine Tot.rB (n := ?_) ?_ ?_); rotate_left; exact rfl) | ((with_reducible refine Tot.rS (n := ?_) ?_ ?_); rotate_left; exact rfl) | ((with_reducible refine Tot.rM (n := ?_) ?_ ?_); rotate_left; exact rfl) | ((with_reducible refine Tot.rO (n := ?_) ?_ ?_); rotate_left; exact rfl) | ((with_reducible refine Tot.dI (n := ?_) ?_ ?_); rotate_left; exact rfl) | ((with_reducible refine Tot.dB (n := ?_) ?_ ?_); rotate_left; exact rfl) | ((with_reducible refine Tot.dS (n := ?_) ?_ ?_); rotate_left; exact rfl) | ((with_reducible refine Tot.dL (n := ?_) (f := ?_) ?_ ?_); rotate_left 2; exact rfl))
  refine Tot.bind (i_pt hX) ?_
  rintro _ ⟨u, rfl, hu⟩
  repeat (first | ((with_reducible refine Tot.rI (n := ?_) ?_ ?_); rotate_left; exact rfl) | ((with_reducible refine Tot.rB (n := ?_) ?_ ?_); rotate_left; exact rfl) | ((with_reducible refine Tot.rS (n := ?_) ?_ ?_); rotate_left; exact rfl) | ((with_reducible refine Tot.rM (n := ?_) ?_ ?_); rotate_left; exact rfl) | ((with_reducible refine Tot.rO (n := ?_) ?_ ?_); rotate_left; exact rfl) | ((with_reducible refine Tot.dI (n := ?_) ?_ ?_); rotate_left; exact rfl) | ((with_reducible refine Tot.dB (n := ?_) ?_ ?_); rotate_left; exact rfl) | ((with_reducible refine Tot.dS (n := ?_) ?_ ?_); rotate_left; exact rfl) | ((with_reducible refine Tot.dL (n := ?_) (f := ?_) ?_ ?_); rotate_left 2; exact rfl))
  have hu := hu.mpr h
  subst hu
  refine Tot.cond (fun h => by cases h) fun _ => ?_
  rw [w64 (x := 0 + 1) (by omega) (by omega)]
  rw [p139 hX, e139_5]
  refine Tot.cond (fun _ => ?_) fun h => by cases h
  refine Tot.getE (by omega) (by simp) two fun r hr _ => ?_
  cases hr
  repeat (first | ((with_reducible refine Tot.rI (n := ?_) ?_ ?_); rotate_left; exact rfl) | ((with_reducible refine Tot.rB (n := ?_) ?_ ?_); rotate_left; exact rfl) | ((with_reducible refine Tot.rS (n := ?_) ?_ ?_); rotate_left; exact rfl) | ((with_reducible refine Tot.rM (n := ?_) ?_ ?_); rotate_left; exact rfl) | ((with_reducible refine Tot.rO (n := ?_) ?_ ?_); rotate_left; exact rfl) | ((with_reducible refine Tot.dI (n := ?_) ?_ ?_); rotate_left; exact rfl) | ((with_reducible refine Tot.dB (n := ?_) ?_ ?_); rotate_left; exact rfl) | ((with_reducible refine Tot.dS (n := ?_) ?_ ?_); rotate_left; exact rfl) | ((with_reducible refine Tot.dL (n := ?_) (f := ?_) ?_ ?_); rotate_left 2; exact rfl))
  refine Tot.bind (i_pt hX) ?_
  rintro _ ⟨u, rfl, hu⟩
  repeat (first | ((with_reducible refine Tot.rI (n := ?_) ?_ ?_); rotate_left; exact rfl) | ((with_reducible refine Tot.rB (n := ?_) ?_ ?_); rotate_left; exact rfl) | ((with_reducible refine Tot.rS (n := ?_) ?_ ?_); rotate_left; exact rfl) | ((with_reducible refine Tot.rM (n := ?_) ?_ ?_); rotate_left; exact rfl) | ((with_reducible refine Tot.rO (n := ?_) ?_ ?_); rotate_left; exact rfl) | ((with_reducible refine Tot.dI (n := ?_) ?_ ?_); rotate_left; exact rfl) | ((with_reducible refine Tot.dB (n := ?_) ?_ ?_); rotate_left; exact rfl) | ((with_reducible refine Tot.dS (n := ?_) ?_ ?_); rotate_left; exact rfl) | ((with_reducible refine Tot.dL (n := ?_) (f := ?_) ?_ ?_); rotate_left 2; exact rfl))
  have hu := hu.mpr h2
  subst hu
  refine Tot.cond (fun h => by cases h) fun _ => ?_
  rw [w64 (x := 0 + 1 + 1) (by omega) (by omega)]
  rw [p139 hX, e139_5]
  refine Tot.cond (fun h => by cases h) fun h => ?_
  have e1 : ∀ x y : Int, (if y < (if x < x then x else x) then y else (if x < x then x else x)) = minI x y := fun x y => by unfold minI; simp
  have e2 : ∀ x y : Int, (if y > (if x > x then x else x) then y else (if x > x then x else x)) = maxI x y := fun x y => by unfold maxI; simp
  exact .some (by rw [e1, e1, e2, e2])
theorem i_meets_step {p q j a b c d x y : Int} {l : List Rw} (h : isPt a b = true) (h2 : isPt c d = true) (h3 : isPt x y = true) (hj : 0 ≤ j) (hl : l[j.toNat]? = some [iD x, iD y]) (hlt : j < l.length) (hl4 : l.length = 4) (hp : 0 ≤ p ∧ p ≤ j) (hq : 0 ≤ q ∧ q ≤ j) :
    VP 101 8 (s101_8 p q 4 j a b c d l) = VP 101 8 (s101_8 (p + cnt (decide (0 < crI a b c d x y))) (q + cnt (decide (crI a b c d x y < 0))) 4 (j + 1) a b c d l) := by
  rw [p101 hX, e101_8]
  obtain ⟨r, hr, rfl⟩ := i_side hX h h2 h3
  rw [show decide (j < 4) = true from decide_eq_true (by omega), chk_some (⟨hj, hlt⟩ : 0 ≤ j ∧ j < (l.length : Int)), hl]
  show (VV 141 [.agg [iD a, iD b], .agg [iD c, iD d], .agg [iD x, iD y]]).bind _ = _
  rw [hr]
  show cond (sgn (crI a b c d x y) == 1) _ (cond (sgn (crI a b c d x y) == -1) _ _) = _
  rw [w64 (x := p + 1) (by omega) (by omega), w64 (x := q + 1) (by omega) (by omega), w64 (x := j + 1) (by omega) (by omega)]
  by_cases h1 : 0 < crI a b c d x y
  · rw [sgn_one.mpr h1, decide_eq_true h1, decide_eq_false (by omega)]
    show VP 101 8 (s101_8 (p + 1) q 4 (j + 1) a b c d l) = VP 101 8 (s101_8 (p + 1) (q + 0) 4 (j + 1) a b c d l)
    rw [Int.add_zero]
  · by_cases h2 : crI a b c d x y < 0
    · rw [sgn_neg.mpr h2, decide_eq_true h2, decide_eq_false (by omega)]
      show VP 101 8 (s101_8 p (q + 1) 4 (j + 1) a b c d l) = VP 101 8 (s101_8 (p + 0) (q + 1) 4 (j + 1) a b c d l)
      rw [Int.add_zero]
    · rw [decide_eq_false h1, decide_eq_false h2, show sgn (crI a b c d x y) = 0 by unfold sgn; rw [if_neg h2, if_neg h1]]
      show VP 101 8 (s101_8 p q 4 (j + 1) a b c d l) = VP 101 8 (s101_8 (p + 0) (q + 0) 4 (j + 1) a b c d l)
      rw [Int.add_zero, Int.add_zero]
theorem i_meets {a b c d x0 y0 x1 y1 : Int} : TP (VV 101 [.agg [iD a, iD b, iD c, iD d], .agg [iD x0, iD y0, iD x1, iD y1]]) (Meets a b c d x0 y0 x1 y1) := by
  rw [b101 hX, e101]
  refine Tot.bind (i_sg hX) ?_
  rintro _ ⟨u, rfl, hu⟩
  repeat (first | ((with_reducible refine Tot.rI (n := ?_) ?_ ?_); rotate_left; exact rfl) | ((with_reducible refine Tot.rB (n := ?_) ?_ ?_); rotate_left; exact rfl) | ((with_reducible refine Tot.rS (n := ?_) ?_ ?_); rotate_left; exact rfl) | ((with_reducible refine Tot.rM (n := ?_) ?_ ?_); rotate_left; exact rfl) | ((with_reducible refine Tot.rO (n := ?_) ?_ ?_); rotate_left; exact rfl) | ((with_reducible refine Tot.dI (n := ?_) ?_ ?_); rotate_left; exact rfl) | ((with_reducible refine Tot.dB (n := ?_) ?_ ?_); rotate_left; exact rfl) | ((with_reducible refine Tot.dS (n := ?_) ?_ ?_); rotate_left; exact rfl) | ((with_reducible refine Tot.dL (n := ?_) (f := ?_) ?_ ?_); rotate_left 2; exact rfl))
  refine Tot.cond (fun h => ?_) fun h => ?_
  · exact TP.f (by rintro ⟨h', _⟩; rw [hu.mpr h'] at h; cases h)
  have hu := hu.mp (by cases u <;> simp_all)
  obtain ⟨ha, hc, hne⟩ := isSg_iff.mp hu
  refine Tot.bind (i_bx hX) ?_
  rintro _ ⟨v, rfl, hv⟩
  repeat (first | ((with_reducible refine Tot.rI (n := ?_) ?_ ?_); rotate_left; exact rfl) | ((with_reducible refine Tot.rB (n := ?_) ?_ ?_); rotate_left; exact rfl) | ((with_reducible refine Tot.rS (n := ?_) ?_ ?_); rotate_left; exact rfl) | ((with_reducible refine Tot.rM (n := ?_) ?_ ?_); rotate_left; exact rfl) | ((with_reducible refine Tot.rO (n := ?_) ?_ ?_); rotate_left; exact rfl) | ((with_reducible refine Tot.dI (n := ?_) ?_ ?_); rotate_left; exact rfl) | ((with_reducible refine Tot.dB (n := ?_) ?_ ?_); rotate_left; exact rfl) | ((with_reducible refine Tot.dS (n := ?_) ?_ ?_); rotate_left; exact rfl) | ((with_reducible refine Tot.dL (n := ?_) (f := ?_) ?_ ?_); rotate_left 2; exact rfl))
  refine Tot.cond (fun h => ?_) fun h => ?_
  · exact TP.f (by rintro ⟨_, h', _⟩; rw [hv.mpr h'] at h; cases h)
  have hv := hv.mp (by cases v <;> simp_all)
  have hv' := isBx_iff.mp hv
  have ha' := isPt_iff.mp ha
  have hc' := isPt_iff.mp hc
  rw [p101 hX, e101_3]
  rw [show oldL ([[iD a, iD b], [iD c, iD d]] : List Rw) = [[iD a, iD b], [iD c, iD d]] from rfl]
  refine Tot.bind (i_boxof2 hX ha hc) ?_
  rintro _ rfl
  repeat (first | ((with_reducible refine Tot.rI (n := ?_) ?_ ?_); rotate_left; exact rfl) | ((with_reducible refine Tot.rB (n := ?_) ?_ ?_); rotate_left; exact rfl) | ((with_reducible refine Tot.rS (n := ?_) ?_ ?_); rotate_left; exact rfl) | ((with_reducible refine Tot.rM (n := ?_) ?_ ?_); rotate_left; exact rfl) | ((with_reducible refine Tot.rO (n := ?_) ?_ ?_); rotate_left; exact rfl) | ((with_reducible refine Tot.dI (n := ?_) ?_ ?_); rotate_left; exact rfl) | ((with_reducible refine Tot.dB (n := ?_) ?_ ?_); rotate_left; exact rfl) | ((with_reducible refine Tot.dS (n := ?_) ?_ ?_); rotate_left; exact rfl) | ((with_reducible refine Tot.dL (n := ?_) (f := ?_) ?_ ?_); rotate_left 2; exact rfl))
  have hbx : isBx (minI a c) (minI b d) (maxI a c) (maxI b d) = true := isBx_iff.mpr (by unfold minI maxI; split <;> split <;> split <;> split <;> omega)
  refine Tot.bind (i_boxesmeet hX) ?_
  rintro _ ⟨w, rfl, hw⟩
  repeat (first | ((with_reducible refine Tot.rI (n := ?_) ?_ ?_); rotate_left; exact rfl) | ((with_reducible refine Tot.rB (n := ?_) ?_ ?_); rotate_left; exact rfl) | ((with_reducible refine Tot.rS (n := ?_) ?_ ?_); rotate_left; exact rfl) | ((with_reducible refine Tot.rM (n := ?_) ?_ ?_); rotate_left; exact rfl) | ((with_reducible refine Tot.rO (n := ?_) ?_ ?_); rotate_left; exact rfl) | ((with_reducible refine Tot.dI (n := ?_) ?_ ?_); rotate_left; exact rfl) | ((with_reducible refine Tot.dB (n := ?_) ?_ ?_); rotate_left; exact rfl) | ((with_reducible refine Tot.dS (n := ?_) ?_ ?_); rotate_left; exact rfl) | ((with_reducible refine Tot.dL (n := ?_) (f := ?_) ?_ ?_); rotate_left 2; exact rfl))
  refine Tot.cond (fun h => ?_) fun h => ?_
  · exact TP.f (by rintro ⟨_, _, h1, h2, _⟩; rw [hw.mpr ⟨hbx, hv, h1, h2⟩] at h; cases h)
  obtain ⟨_, _, h1, h2⟩ := hw.mp (by cases w <;> simp_all)
  have c0 := cnt_01 (decide (0 < crI a b c d x0 y0)); have c1 := cnt_01 (decide (0 < crI a b c d x1 y1)); have c2 := cnt_01 (decide (0 < crI a b c d x0 y1))
  have d0 := cnt_01 (decide (crI a b c d x0 y0 < 0)); have d1 := cnt_01 (decide (crI a b c d x1 y1 < 0)); have d2 := cnt_01 (decide (crI a b c d x0 y1 < 0))
  show Tot (VP 101 8 (s101_8 0 0 4 0 a b c d [[iD x0, iD y0], [iD x1, iD y1], [iD x0, iD y1], [iD x1, iD y0]])) _
  rw [i_meets_step hX ha hc (isPt_iff.mpr (by omega)) (by omega) (x := x0) (y := y0) rfl (by simp) rfl (by omega) (by omega)]
  rw [i_meets_step hX ha hc (isPt_iff.mpr (by omega)) (by omega) (x := x1) (y := y1) rfl (by simp) rfl (by omega) (by omega)]
  rw [i_meets_step hX ha hc (isPt_iff.mpr (by omega)) (by omega) (x := x0) (y := y1) rfl (by simp) rfl (by omega) (by omega)]
  rw [i_meets_step hX ha hc (isPt_iff.mpr (by omega)) (by omega) (x := x1) (y := y0) rfl (by simp) rfl (by omega) (by omega)]
  rw [p101 hX, e101_8]
  have hl : ∀ p q : Prop, (p ∧ q) → (Meets a b c d x0 y0 x1 y1 ↔ LineMeets a b c d x0 y0 x1 y1) := fun _ _ _ => ⟨fun h => h.2.2.2.2, fun h => ⟨hu, hv, h1, h2, h⟩⟩
  have hl := hl True True ⟨trivial, trivial⟩
  refine Tot.cond (fun h => by cases h) fun _ => Tot.cond (fun h => ?_) fun h => ?_
  · simp only [decide_eq_true_eq] at h
    rw [cnt_4] at h
    simp only [decide_eq_true_eq] at h
    refine TP.d ?_
    rw [cnt_4, hl]
    simp only [decide_eq_true_eq]
    exact ⟨fun h' => ⟨h, h'⟩, fun h' => h'.2⟩
  · simp only [decide_eq_false_iff_not] at h
    rw [cnt_4] at h
    simp only [decide_eq_true_eq] at h
    exact TP.f (by rw [hl]; exact fun h' => h h'.1)
end
end Go.Proofs.YtoiefmhmohhaeaaGreat.VE
/- Plain geometry: what meets a window's box meets a tile that overlaps it. -/
set_option linter.unusedVariables false
set_option linter.unusedSimpArgs false
namespace Go.Proofs.YtoiefmhmohhaeaaGreat.VE

/-- Fractions: a largest of some. -/
theorem max_frac : ∀ (l : List (Int × Int)), (∀ p ∈ l, 0 < p.2) → l ≠ [] → ∃ q ∈ l, ∀ p ∈ l, p.1 * q.2 ≤ q.1 * p.2
  | [], _, h => absurd rfl h
  | [p], hp, _ => ⟨p, List.mem_singleton.mpr rfl, fun r hr => by rw [List.mem_singleton] at hr; subst hr; exact Int.le_refl _⟩
  | p :: p' :: l, hp, _ => by
    obtain ⟨q, hq, hm⟩ := max_frac (p' :: l) (fun r hr => hp r (List.mem_cons_of_mem _ hr)) (by simp)
    have hq0 := hp q (List.mem_cons_of_mem _ hq)
    have hp0 := hp p (List.mem_cons_self ..)
    by_cases h : p.1 * q.2 ≤ q.1 * p.2
    · refine ⟨q, List.mem_cons_of_mem _ hq, fun r hr => ?_⟩
      rcases List.mem_cons.mp hr with rfl | hr
      · exact h
      · exact hm r hr
    · refine ⟨p, List.mem_cons_self .., fun r hr => ?_⟩
      rcases List.mem_cons.mp hr with rfl | hr
      · exact Int.le_refl _
      · have h1 := hm r hr
        have hr0 := hp r (List.mem_cons_of_mem _ hr)
        -- r.1/r.2 ≤ q.1/q.2 ≤ p.1/p.2
        have a1 : r.1 * q.2 * p.2 ≤ q.1 * r.2 * p.2 := Int.mul_le_mul_of_nonneg_right h1 (by omega)
        have a2 : q.1 * p.2 * r.2 ≤ p.1 * q.2 * r.2 := Int.mul_le_mul_of_nonneg_right (by omega) (by omega)
        have a3 : r.1 * p.2 * q.2 ≤ p.1 * r.2 * q.2 := by grind
        exact Int.le_of_mul_le_mul_right a3 hq0
/-- A fraction between: lower bounds and upper bounds. -/
theorem helly (lo up : List (Int × Int)) (hl : ∀ p ∈ lo, 0 < p.2) (hn : lo ≠ []) (h : ∀ p ∈ lo, ∀ q ∈ up, p.1 * q.2 ≤ q.1 * p.2) :
    ∃ T W : Int, 0 < W ∧ (∀ p ∈ lo, p.1 * W ≤ T * p.2) ∧ ∀ q ∈ up, T * q.2 ≤ q.1 * W := by
  obtain ⟨m, hm, hmax⟩ := max_frac lo hl hn
  exact ⟨m.1, m.2, hl m hm, hmax, fun q hq => h m hm q hq⟩

/-- The bounds on a line's parameter by one axis: from a, by d, within x0 .. x1. -/
def axLo (a d x0 x1 : Int) : List (Int × Int) := if 0 < d then [(x0 - a, d)] else if d < 0 then [(a - x1, -d)] else []
def axUp (a d x0 x1 : Int) : List (Int × Int) := if 0 < d then [(x1 - a, d)] else if d < 0 then [(a - x0, -d)] else []
theorem axLo_pos {a d x0 x1 : Int} : ∀ p ∈ axLo a d x0 x1, 0 < p.2 := by
  intro p hp
  unfold axLo at hp
  split at hp
  · simp only [List.mem_singleton] at hp; subst hp; assumption
  · split at hp
    · simp only [List.mem_singleton] at hp; subst hp; show 0 < -d; omega
    · cases hp
theorem ax_in {a d x0 x1 T W : Int} (hW : 0 < W) (h0 : d = 0 → x0 ≤ a ∧ a ≤ x1) (hl : ∀ p ∈ axLo a d x0 x1, p.1 * W ≤ T * p.2) (hu : ∀ p ∈ axUp a d x0 x1, T * p.2 ≤ p.1 * W) : x0 * W ≤ a * W + d * T ∧ a * W + d * T ≤ x1 * W := by
  unfold axLo at hl
  unfold axUp at hu
  by_cases h1 : 0 < d
  · rw [if_pos h1] at hl hu
    have a1 := hl _ (List.mem_singleton.mpr rfl)
    have a2 := hu _ (List.mem_singleton.mpr rfl)
    simp only [] at a1 a2
    grind
  · rw [if_neg h1] at hl hu
    by_cases h2 : d < 0
    · rw [if_pos h2] at hl hu
      have a1 := hl _ (List.mem_singleton.mpr rfl)
      have a2 := hu _ (List.mem_singleton.mpr rfl)
      simp only [] at a1 a2
      grind
    · have : d = 0 := by omega
      subst this
      obtain ⟨b1, b2⟩ := h0 rfl
      have a1 := Int.mul_le_mul_of_nonneg_right b1 (Int.le_of_lt hW)
      have a2 := Int.mul_le_mul_of_nonneg_right b2 (Int.le_of_lt hW)
      omega
theorem forall_ax {a d x0 x1 : Int} {P : Int × Int → Prop} (h1 : 0 < d → P (x0 - a, d)) (h2 : d < 0 → P (a - x1, -d)) : ∀ p ∈ axLo a d x0 x1, P p := by
  intro p hp
  unfold axLo at hp
  split at hp
  · simp only [List.mem_singleton] at hp; subst hp; exact h1 (by assumption)
  · split at hp
    · simp only [List.mem_singleton] at hp; subst hp; exact h2 (by assumption)
    · cases hp
theorem forall_up {a d x0 x1 : Int} {P : Int × Int → Prop} (h1 : 0 < d → P (x1 - a, d)) (h2 : d < 0 → P (a - x0, -d)) : ∀ p ∈ axUp a d x0 x1, P p := by
  intro p hp
  unfold axUp at hp
  split at hp
  · simp only [List.mem_singleton] at hp; subst hp; exact h1 (by assumption)
  · split at hp
    · simp only [List.mem_singleton] at hp; subst hp; exact h2 (by assumption)
    · cases hp
theorem le_corner {u v u' v' : Int} (hu : u ≤ u') (d : Int) (hd : 0 ≤ d) : d * u ≤ d * u' := Int.mul_le_mul_of_nonneg_left hu hd
theorem ge_corner {u u' : Int} (hu : u ≤ u') (d : Int) (hd : d ≤ 0) : d * u' ≤ d * u := Int.mul_le_mul_of_nonpos_left hd hu

/-- A line that is not strictly on one side of the box: the bounds of one axis and of the other agree. -/
theorem line_xy {a b dx dy x0 y0 x1 y1 : Int} (hx : x0 ≤ x1) (hy : y0 ≤ y1) (h1 : ¬ (0 < dx * (y0 - b) - dy * (x0 - a) ∧ 0 < dx * (y1 - b) - dy * (x1 - a) ∧ 0 < dx * (y1 - b) - dy * (x0 - a) ∧ 0 < dx * (y0 - b) - dy * (x1 - a)))
    (h2 : ¬ (dx * (y0 - b) - dy * (x0 - a) < 0 ∧ dx * (y1 - b) - dy * (x1 - a) < 0 ∧ dx * (y1 - b) - dy * (x0 - a) < 0 ∧ dx * (y0 - b) - dy * (x1 - a) < 0)) :
    (∀ p ∈ axLo a dx x0 x1, ∀ q ∈ axUp b dy y0 y1, p.1 * q.2 ≤ q.1 * p.2) ∧ (∀ p ∈ axLo b dy y0 y1, ∀ q ∈ axUp a dx x0 x1, p.1 * q.2 ≤ q.1 * p.2) := by
  have X : ∀ d : Int, 0 ≤ d → d * (x0 - a) ≤ d * (x1 - a) := fun d hd => Int.mul_le_mul_of_nonneg_left (by omega) hd
  have Y : ∀ d : Int, 0 ≤ d → d * (y0 - b) ≤ d * (y1 - b) := fun d hd => Int.mul_le_mul_of_nonneg_left (by omega) hd
  have X' : ∀ d : Int, d ≤ 0 → d * (x1 - a) ≤ d * (x0 - a) := fun d hd => Int.mul_le_mul_of_nonpos_left hd (by omega)
  have Y' : ∀ d : Int, d ≤ 0 → d * (y1 - b) ≤ d * (y0 - b) := fun d hd => Int.mul_le_mul_of_nonpos_left hd (by omega)
  refine ⟨forall_ax (fun hd => forall_up (fun he => ?_) fun he => ?_) fun hd => forall_up (fun he => ?_) fun he => ?_, forall_ax (fun hd => forall_up (fun he => ?_) fun he => ?_) fun hd => forall_up (fun he => ?_) fun he => ?_⟩
  all_goals
    have e1 := X dy; have e2 := X' dy; have e3 := Y dx; have e4 := Y' dx
    simp only []
    generalize hA : dy * (x0 - a) = A at *
    generalize hB : dy * (x1 - a) = B at *
    generalize hC : dx * (y0 - b) = C at *
    generalize hD : dx * (y1 - b) = E at *
  · have : A ≤ E := by omega
    grind
  · have : C ≤ A := by omega
    grind
  · have : E ≤ B := by omega
    grind
  · have : B ≤ C := by omega
    grind
  · have : C ≤ B := by omega
    grind
  · have : A ≤ C := by omega
    grind
  · have : B ≤ E := by omega
    grind
  · have : E ≤ A := by omega
    grind
end Go.Proofs.YtoiefmhmohhaeaaGreat.VE
/- Plain geometry, continued: the tile. -/
set_option linter.unusedVariables false
set_option linter.unusedSimpArgs false
namespace Go.Proofs.YtoiefmhmohhaeaaGreat.VE

theorem minI_le {a b : Int} : minI a b ≤ a ∧ minI a b ≤ b ∧ (minI a b = a ∨ minI a b = b) := by unfold minI; split <;> omega
theorem maxI_le {a b : Int} : a ≤ maxI a b ∧ b ≤ maxI a b ∧ (maxI a b = a ∨ maxI a b = b) := by unfold maxI; split <;> omega
theorem ax_self {a d x0 x1 : Int} (h : x0 ≤ x1) : ∀ p ∈ axLo a d x0 x1, ∀ q ∈ axUp a d x0 x1, p.1 * q.2 ≤ q.1 * p.2 := by
  intro p hp
  refine forall_ax (a := a) (d := d) (x0 := x0) (x1 := x1) (P := fun p => ∀ q ∈ axUp a d x0 x1, p.1 * q.2 ≤ q.1 * p.2) (fun hd => ?_) (fun hd => ?_) p hp
  · exact forall_up (fun _ => Int.mul_le_mul_of_nonneg_right (by omega) (by omega)) fun he => absurd he (by omega)
  · exact forall_up (fun he => absurd he (by omega)) fun _ => Int.mul_le_mul_of_nonneg_right (by omega) (by omega)
theorem meets_point {a b c d x0 y0 x1 y1 : Int} (h : Meets a b c d x0 y0 x1 y1) :
    ∃ T W : Int, 0 < W ∧ 0 ≤ T ∧ T ≤ W ∧ x0 * W ≤ a * W + (c - a) * T ∧ a * W + (c - a) * T ≤ x1 * W ∧ y0 * W ≤ b * W + (d - b) * T ∧ b * W + (d - b) * T ≤ y1 * W := by
  obtain ⟨hs, hb, h1, h2, h3, h4⟩ := h
  rw [isBx_iff] at hb
  have m1 := minI_le (a := maxI a c) (b := x1); have m2 := maxI_le (a := minI a c) (b := x0)
  have m3 := minI_le (a := maxI b d) (b := y1); have m4 := maxI_le (a := minI b d) (b := y0)
  have m5 := minI_le (a := a) (b := c); have m6 := maxI_le (a := a) (b := c)
  have m7 := minI_le (a := b) (b := d); have m8 := maxI_le (a := b) (b := d)
  unfold crI at h3 h4
  obtain ⟨l1, l2⟩ := line_xy (a := a) (b := b) (dx := c - a) (dy := d - b) (by omega) (by omega) h3 h4
  obtain ⟨T, W, hW, hlo, hup⟩ := helly ((0, 1) :: (axLo a (c - a) x0 x1 ++ axLo b (d - b) y0 y1)) ((1, 1) :: (axUp a (c - a) x0 x1 ++ axUp b (d - b) y0 y1))
    (by
      intro p hp
      rcases List.mem_cons.mp hp with rfl | hp
      · decide
      · rcases List.mem_append.mp hp with hp | hp
        · exact axLo_pos p hp
        · exact axLo_pos p hp) (by simp)
    (by
      intro p hp q hq
      rcases List.mem_cons.mp hp with rfl | hp
      · rcases List.mem_cons.mp hq with rfl | hq
        · decide
        · rcases List.mem_append.mp hq with hq | hq
          · exact forall_up (P := fun q => (0 : Int) * q.2 ≤ q.1 * 1) (fun hd => by simp only []; omega) (fun hd => by simp only []; omega) q hq
          · exact forall_up (P := fun q => (0 : Int) * q.2 ≤ q.1 * 1) (fun hd => by simp only []; omega) (fun hd => by simp only []; omega) q hq
      · rcases List.mem_cons.mp hq with rfl | hq
        · rcases List.mem_append.mp hp with hp | hp
          · exact forall_ax (P := fun p => p.1 * (1 : Int) ≤ 1 * p.2) (fun hd => by simp only []; omega) (fun hd => by simp only []; omega) p hp
          · exact forall_ax (P := fun p => p.1 * (1 : Int) ≤ 1 * p.2) (fun hd => by simp only []; omega) (fun hd => by simp only []; omega) p hp
        · rcases List.mem_append.mp hp with hp | hp
          · rcases List.mem_append.mp hq with hq | hq
            · exact ax_self (by omega) p hp q hq
            · exact l1 p hp q hq
          · rcases List.mem_append.mp hq with hq | hq
            · exact l2 p hp q hq
            · exact ax_self (by omega) p hp q hq)
  have t0 := hlo _ (List.mem_cons_self ..)
  have t1 := hup _ (List.mem_cons_self ..)
  simp only [] at t0 t1
  obtain ⟨r1, r2⟩ := ax_in hW (by omega) (fun p hp => hlo p (List.mem_cons_of_mem _ (List.mem_append_left _ hp))) (fun p hp => hup p (List.mem_cons_of_mem _ (List.mem_append_left _ hp)))
  obtain ⟨r3, r4⟩ := ax_in hW (by omega) (fun p hp => hlo p (List.mem_cons_of_mem _ (List.mem_append_right _ hp))) (fun p hp => hup p (List.mem_cons_of_mem _ (List.mem_append_right _ hp)))
  exact ⟨T, W, hW, by omega, by omega, r1, r2, r3, r4⟩
theorem le_of_mul {a b W X : Int} (hW : 0 < W) (h1 : a * W ≤ X) (h2 : X ≤ b * W) : a ≤ b := Int.le_of_mul_le_mul_right (Int.le_trans h1 h2) hW
/-- A point of the segment lies between its ends. -/
theorem between {a c T W : Int} (h0 : 0 ≤ T) (h1 : T ≤ W) : minI a c * W ≤ a * W + (c - a) * T ∧ a * W + (c - a) * T ≤ maxI a c * W := by
  have m5 := minI_le (a := a) (b := c); have m6 := maxI_le (a := a) (b := c)
  have a1 := Int.mul_le_mul_of_nonneg_right m5.1 (show 0 ≤ W - T by omega)
  have a2 := Int.mul_le_mul_of_nonneg_right m5.2.1 h0
  have a3 := Int.mul_le_mul_of_nonneg_right m6.1 (show 0 ≤ W - T by omega)
  have a4 := Int.mul_le_mul_of_nonneg_right m6.2.1 h0
  constructor <;> grind
theorem pos_mul {n W : Int} (h : 0 < n) (hW : 0 < W) : 0 < n * W := Int.mul_pos h hW
theorem point_meets {a b c d x0 y0 x1 y1 T W : Int} (hs : isSg a b c d = true) (hb : isBx x0 y0 x1 y1 = true) (hW : 0 < W) (h0 : 0 ≤ T) (h1 : T ≤ W)
    (h2 : x0 * W ≤ a * W + (c - a) * T) (h3 : a * W + (c - a) * T ≤ x1 * W) (h4 : y0 * W ≤ b * W + (d - b) * T) (h5 : b * W + (d - b) * T ≤ y1 * W) : Meets a b c d x0 y0 x1 y1 := by
  have hb' := isBx_iff.mp hb
  have m1 := minI_le (a := maxI a c) (b := x1); have m2 := maxI_le (a := minI a c) (b := x0)
  have m3 := minI_le (a := maxI b d) (b := y1); have m4 := maxI_le (a := minI b d) (b := y0)
  have m5 := minI_le (a := a) (b := c); have m6 := maxI_le (a := a) (b := c)
  have m7 := minI_le (a := b) (b := d); have m8 := maxI_le (a := b) (b := d)
  obtain ⟨p1, p2⟩ := between (a := a) (c := c) h0 h1
  obtain ⟨p3, p4⟩ := between (a := b) (c := d) h0 h1
  have q1 := le_of_mul hW h2 p2; have q2 := le_of_mul hW p1 h3; have q3 := le_of_mul hW h4 p4; have q4 := le_of_mul hW p3 h5
  refine ⟨hs, hb, by omega, by omega, ?_, ?_⟩
  all_goals
    unfold crI
    rintro ⟨k1, k2, k3, k4⟩
    generalize c - a = e at *
    generalize d - b = f at *
    -- the form at the four corners, W times
    have z : e * (b * W + f * T - b * W) - f * (a * W + e * T - a * W) = 0 := by grind
    generalize hX : a * W + e * T = X at *
    generalize hY : b * W + f * T = Y at *
    by_cases he : 0 ≤ e <;> by_cases hf : 0 ≤ f
  · have u1 := Int.mul_le_mul_of_nonneg_left h4 he; have u2 := Int.mul_le_mul_of_nonneg_left h3 hf
    have := pos_mul k4 hW
    grind
  · have u1 := Int.mul_le_mul_of_nonneg_left h4 he; have u2 := Int.mul_le_mul_of_nonpos_left (show f ≤ 0 by omega) h2
    have := pos_mul k1 hW
    grind
  · have u1 := Int.mul_le_mul_of_nonpos_left (show e ≤ 0 by omega) h5; have u2 := Int.mul_le_mul_of_nonneg_left h3 hf
    have := pos_mul k2 hW
    grind
  · have u1 := Int.mul_le_mul_of_nonpos_left (show e ≤ 0 by omega) h5; have u2 := Int.mul_le_mul_of_nonpos_left (show f ≤ 0 by omega) h2
    have := pos_mul k3 hW
    grind
  · have u1 := Int.mul_le_mul_of_nonneg_left h5 he; have u2 := Int.mul_le_mul_of_nonneg_left h2 hf
    have := pos_mul (n := -(e * (y1 - b) - f * (x0 - a))) (by omega) hW
    grind
  · have u1 := Int.mul_le_mul_of_nonneg_left h5 he; have u2 := Int.mul_le_mul_of_nonpos_left (show f ≤ 0 by omega) h3
    have := pos_mul (n := -(e * (y1 - b) - f * (x1 - a))) (by omega) hW
    grind
  · have u1 := Int.mul_le_mul_of_nonpos_left (show e ≤ 0 by omega) h4; have u2 := Int.mul_le_mul_of_nonneg_left h2 hf
    have := pos_mul (n := -(e * (y0 - b) - f * (x0 - a))) (by omega) hW
    grind
  · have u1 := Int.mul_le_mul_of_nonpos_left (show e ≤ 0 by omega) h4; have u2 := Int.mul_le_mul_of_nonpos_left (show f ≤ 0 by omega) h3
    have := pos_mul (n := -(e * (y0 - b) - f * (x1 - a))) (by omega) hW
    grind
/-- The column of tiles. -/
theorem tile_col {x0 x1 X W : Int} (hx : x0 < x1) (h0 : 0 ≤ x0) (h1 : x1 ≤ 200) (hW : 0 < W) (h2 : x0 * W ≤ X) (h3 : X ≤ x1 * W) :
    ∃ i, 0 ≤ i ∧ i ≤ 19 ∧ 10 * i * W ≤ X ∧ X ≤ (10 * i + 10) * W ∧ 10 * i < x1 ∧ x0 < 10 * i + 10 := by
  have hX : 0 ≤ X := Int.le_trans (Int.mul_nonneg h0 (by omega)) h2
  have d1 := Int.mul_ediv_self_le (x := X) (k := 10 * W) (by omega)
  have d2 := Int.lt_mul_ediv_self_add (x := X) (k := 10 * W) (by omega)
  have d3 := Int.ediv_nonneg hX (show (0 : Int) ≤ 10 * W by omega)
  generalize X / (10 * W) = q at d1 d2 d3
  by_cases hq : 10 * q < x1
  · refine ⟨q, d3, by omega, by grind, by grind, hq, ?_⟩
    exact Int.lt_of_mul_lt_mul_right (a := W) (by grind) (by omega)
  · have e1 : x1 * W ≤ 10 * q * W := Int.mul_le_mul_of_nonneg_right (by omega) (by omega)
    have e2 : 10 * q ≤ x1 := Int.le_of_mul_le_mul_right (a := W) (by grind) hW
    have : x1 = 10 * q := by omega
    subst this
    exact ⟨q - 1, by omega, by omega, by grind, by grind, by omega, by omega⟩
/-- A tile that overlaps the window. -/
def TileOf (i j wx wy s : Int) : Prop := isBx (10 * i) (10 * j) (minI (10 * i + 10) 200) (minI (10 * j + 10) 200) = true ∧ isBx wx wy (wx + s) (wy + s) = true ∧
  0 < minI (minI (10 * i + 10) 200) (wx + s) - maxI (10 * i) wx ∧ 0 < minI (minI (10 * j + 10) 200) (wy + s) - maxI (10 * j) wy
theorem tile_of {i j wx wy s v : Int} (h : isWin wx wy s v = true) (i0 : 0 ≤ i) (i1 : i ≤ 19) (j0 : 0 ≤ j) (j1 : j ≤ 19) (a1 : 10 * i < wx + s) (a2 : wx < 10 * i + 10) (a3 : 10 * j < wy + s) (a4 : wy < 10 * j + 10) : TileOf i j wx wy s ∧ minI (10 * i + 10) 200 = 10 * i + 10 ∧ minI (10 * j + 10) 200 = 10 * j + 10 := by
  rw [isWin_iff] at h
  have e1 : minI (10 * i + 10) 200 = 10 * i + 10 := by unfold minI; split <;> omega
  have e2 : minI (10 * j + 10) 200 = 10 * j + 10 := by unfold minI; split <;> omega
  refine ⟨?_, e1, e2⟩
  unfold TileOf
  rw [e1, e2]
  refine ⟨isBx_iff.mpr (by omega), isBx_iff.mpr (by omega), ?_, ?_⟩
  · have m1 := minI_le (a := 10 * i + 10) (b := wx + s); have m2 := maxI_le (a := 10 * i) (b := wx); omega
  · have m1 := minI_le (a := 10 * j + 10) (b := wy + s); have m2 := maxI_le (a := 10 * j) (b := wy); omega
theorem seg_tile {a b c d wx wy s v : Int} (hw : isWin wx wy s v = true) (h : Meets a b c d wx wy (wx + s) (wy + s)) :
    ∃ i j, 0 ≤ i ∧ i ≤ 19 ∧ 0 ≤ j ∧ j ≤ 19 ∧ TileOf i j wx wy s ∧ Meets a b c d (10 * i) (10 * j) (minI (10 * i + 10) 200) (minI (10 * j + 10) 200) := by
  have hw' := isWin_iff.mp hw
  obtain ⟨T, W, hW, t0, t1, p1, p2, p3, p4⟩ := meets_point h
  obtain ⟨i, i0, i1, i2, i3, i4, i5⟩ := tile_col (by omega) (by omega) (by omega) hW p1 p2
  obtain ⟨j, j0, j1, j2, j3, j4, j5⟩ := tile_col (by omega) (by omega) (by omega) hW p3 p4
  obtain ⟨ht, e1, e2⟩ := tile_of hw i0 i1 j0 j1 i4 i5 j4 j5
  refine ⟨i, j, i0, i1, j0, j1, ht, ?_⟩
  have hb := ht.1
  rw [e1, e2] at hb ⊢
  exact point_meets h.1 hb hW t0 t1 i2 i3 j2 j3
theorem pt_tile {x y wx wy s v : Int} (hw : isWin wx wy s v = true) (h : wx ≤ x ∧ x ≤ wx + s ∧ wy ≤ y ∧ y ≤ wy + s) :
    ∃ i j, 0 ≤ i ∧ i ≤ 19 ∧ 0 ≤ j ∧ j ≤ 19 ∧ TileOf i j wx wy s ∧ (10 * i) ≤ x ∧ x ≤ minI (10 * i + 10) 200 ∧ (10 * j) ≤ y ∧ y ≤ minI (10 * j + 10) 200 := by
  have hw' := isWin_iff.mp hw
  obtain ⟨i, i0, i1, i2, i3, i4, i5⟩ := tile_col (x0 := wx) (x1 := wx + s) (X := x) (W := 1) (by omega) (by omega) (by omega) (by omega) (by omega) (by omega)
  obtain ⟨j, j0, j1, j2, j3, j4, j5⟩ := tile_col (x0 := wy) (x1 := wy + s) (X := y) (W := 1) (by omega) (by omega) (by omega) (by omega) (by omega) (by omega)
  obtain ⟨ht, e1, e2⟩ := tile_of hw i0 i1 j0 j1 i4 i5 j4 j5
  exact ⟨i, j, i0, i1, j0, j1, ht, by omega, by omega, by omega, by omega⟩
/-- Every window has a tile. -/
theorem win_tile {wx wy s v : Int} (hw : isWin wx wy s v = true) : ∃ i j, 0 ≤ i ∧ i ≤ 19 ∧ 0 ≤ j ∧ j ≤ 19 ∧ TileOf i j wx wy s := by
  have hw' := isWin_iff.mp hw
  obtain ⟨i, j, i0, i1, j0, j1, ht, _⟩ := pt_tile hw (x := wx) (y := wy) (by omega)
  exact ⟨i, j, i0, i1, j0, j1, ht⟩
end Go.Proofs.YtoiefmhmohhaeaaGreat.VE
