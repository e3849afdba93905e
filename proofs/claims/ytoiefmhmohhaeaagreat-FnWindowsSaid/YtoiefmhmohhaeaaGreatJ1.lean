/- slices.SortFunc, told by the kit's contract, part 1. -/
import Derived.Test.YtoiefmhmohhaeaaGreatG3
import Derived.Shelf.SlSortCmp.WholeK
import Derived.Shelf.SlSortCmp.NoneTotal
set_option linter.all false
/- slices.SortFunc, told by the kit's contract: rows of plain cells, a literal that captures nothing. -/
set_option linter.unusedSimpArgs false
set_option linter.unusedVariables false
namespace Go.Proofs.YtoiefmhmohhaeaaGreat.VE

def mapO {α γ : Type} (f : α → Option γ) : List α → Option (List γ)
  | [] => some []
  | x :: xs => (f x).bind fun y => (mapO f xs).bind fun ys => some (y :: ys)
theorem mapO_get {α γ : Type} {f : α → Option γ} : ∀ {l : List α} {ys : List γ}, mapO f l = some ys → ys.length = l.length ∧ ∀ (i : Nat) (x : α), l[i]? = some x → ∃ y, ys[i]? = some y ∧ f x = some y
  | [], ys, h => by
    simp only [mapO, Option.some.injEq] at h
    subst h
    exact ⟨rfl, fun i x h => by simp at h⟩
  | a :: l, ys, h => by
    simp only [mapO, Option.bind_eq_some_iff, Option.some.injEq] at h
    obtain ⟨y, h1, zs, h2, rfl⟩ := h
    obtain ⟨hl, hg⟩ := mapO_get h2
    refine ⟨by simp [hl], fun i x hx => ?_⟩
    cases i with
    | zero =>
      simp only [List.getElem?_cons_zero, Option.some.injEq] at hx
      subst hx
      exact ⟨y, rfl, h1⟩
    | succ i =>
      simp only [List.getElem?_cons_succ] at hx ⊢
      exact hg i x hx
theorem mapO_some {α γ : Type} {f : α → Option γ} {g : α → γ} : ∀ {l : List α}, (∀ x ∈ l, f x = some (g x)) → mapO f l = some (l.map g)
  | [], _ => rfl
  | a :: l, h => by
    simp only [mapO, List.map]
    rw [h a (List.mem_cons_self ..), mapO_some fun x hx => h x (List.mem_cons_of_mem _ hx)]
    rfl
theorem mapO_fin {α γ : Type} {f : Fns → α → Option γ} (hf : ∀ x, Fin1 fun F _ => f F x) : ∀ l : List α, Fin1 fun F _ => mapO (f F) l
  | [] => Fin1.const _
  | a :: l => Fin1.bind (hf a) fun y => Fin1.bind (mapO_fin hf l) fun ys => Fin1.const _

def plainV : D → Bool
  | .v (.agg _) => false
  | .v (.tuple _) => false
  | .v _ => true
  | .s _ _ => false
def valD : D → Value
  | .v x => x
  | .s _ _ => undef
theorem plainV_iff {d : D} : plainV d = true → ∃ x, d = .v x ∧ flat x ∧ x.oneCell' = true := by
  intro h
  cases d with
  | s _ _ => cases h
  | v x => refine ⟨x, rfl, ?_⟩; cases x <;> first | exact ⟨trivial, rfl⟩ | cases h

def askCmp (F : Fns) (g : Nat) (x y : List D) : Option Int := (F g [.agg x, .agg y]).bind fun r => match r with
  | [.v (.int .i64 n)] => some n
  | _ => none
def rowAt (l : List (List D)) (i : Nat) : List D := l.getD (i % l.length) []
def cfOf (tbl : List (List Int)) (n i j : Nat) : Int := (tbl.getD (i % n) []).getD (j % n) 0
noncomputable def sortedL (tbl : List (List Int)) (l : List (List D)) : List (List D) :=
  if l.length = 0 then [] else (Go.Sort.pdq (ltOf (cfOf tbl l.length)) (Array.range l.length) 0 (Array.range l.length).size (Lib.bitLen (Array.range l.length).size) true true).toList.map (rowAt l)
open Classical in
noncomputable def sortX (sz : Nat) (ok : Nat → Bool) (F : Fns) : List AV → Option (List RC)
  | [.row sz' l, .fn g []] => if sz' = sz ∧ ok g = true ∧ l.length < 4611686018427387904 ∧ (l.all fun r => r.all plainV) = true then (mapO (fun x => mapO (fun y => askCmp F g x y) l) l).bind fun tbl => if Go.Sort.SWO (ltOf (cfOf tbl l.length)) then some [.own (sortedL tbl l)] else none else none
  | _ => none
theorem sortX_row {sz : Nat} {ok : Nat → Bool} {F : Fns} {l : List (List D)} {g : Nat} {tbl : List (List Int)} (hg : ok g = true) (hl : l.length < 4611686018427387904) (hp : (l.all fun r => r.all plainV) = true) (ht : mapO (fun x => mapO (fun y => askCmp F g x y) l) l = some tbl) (hO : Go.Sort.SWO (ltOf (cfOf tbl l.length))) :
    sortX sz ok F [.row sz l, .fn g []] = some [.own (sortedL tbl l)] := by
  simp only [sortX]
  rw [if_pos ⟨trivial, hg, hl, hp⟩, ht]
  simp only [Option.bind_some]
  rw [if_pos hO]
theorem askCmp_fin (g : Nat) (x y : List D) : Fin1 fun F _ => askCmp F g x y := Fin1.bind (Fin1.fn g [.agg x, .agg y]) fun r => Fin1.const _
theorem askAll_fin (g : Nat) (l : List (List D)) : Fin1 fun F _ => mapO (fun x => mapO (fun y => askCmp F g x y) l) l :=
  mapO_fin (f := fun F x => mapO (fun y => askCmp F g x y) l) (fun x => mapO_fin (f := fun F y => askCmp F g x y) (fun y => askCmp_fin g x y) l) l
theorem sortX_fin (sz : Nat) (ok : Nat → Bool) (xs : List AV) : Fin1 fun F _ => sortX sz ok F xs := by
  unfold sortX
  split
  · split
    · exact Fin1.bind (askAll_fin _ _) fun tbl => Fin1.const _
    · exact Fin1.const none
  · exact Fin1.const none

section
variable {P : Program}
theorem post_int {L : Lent} {w w' : World} {n : Int} {v : Value} (h : Post ⟨[.val, .val], [.one (.k (.int .i64))]⟩ L w [.v (.int .i64 n)] v w') : v = .int .i64 n := by
  obtain ⟨κ, β, hp, ss, hI, hr, ht⟩ := h
  unfold told at ht
  rw [tells_bind] at ht
  simp only [Option.bind_eq_some_iff] at ht
  obtain ⟨⟨r, is⟩, h1, h2⟩ := ht
  match ss, h1 with
  | [s], h1 =>
    obtain ⟨r1, is1, r2, is2, k1, k2, rfl, rfl⟩ := tells_cons h1
    simp [tells] at k2
    obtain ⟨rfl, rfl⟩ := k2
    cases s with
    | c c =>
      simp only [tell1] at k1
      rw [tellC_bind] at k1
      simp only [Option.bind_eq_some_iff, Option.some.injEq, Prod.mk.injEq] at k1
      obtain ⟨⟨rr, ii⟩, k3, rfl, rfl⟩ := k1
      cases c <;> simp only [tellC] at k3 <;> first
        | (simp only [Option.some.injEq, Prod.mk.injEq] at k3
           obtain ⟨rfl, rfl⟩ := k3
           simp [nodupN, leftK] at h2
           subst h2
           exact hr.1)
        | cases k3
    | _ => simp [tell1] at k1
  | [], h1 => simp [tells] at h1
  | s :: s' :: ss, h1 =>
    obtain ⟨r1, is1, r2, is2, k1, k2, rfl, rfl⟩ := tells_cons h1
    simp [tells] at k2

theorem grow_of {W w' : World} (h : Go.RowKit.Below W.heap.size W w') (hd : W.drawn ≤ w'.drawn) : ∃ q os', w' = Go.Sort.grow (W.drewN q) os' := by
  obtain ⟨h1, h2, h3, h4, h5⟩ := h
  refine ⟨w'.drawn - W.drawn, w'.heap.extract W.heap.size w'.heap.size, ?_⟩
  have hh : w'.heap = W.heap ++ w'.heap.extract W.heap.size w'.heap.size := by
    refine Array.ext_getElem? fun i => ?_
    by_cases hi : i < W.heap.size
    · rw [Array.getElem?_append_left hi, h5 i hi]
    · rw [Array.getElem?_append_right (by omega), Array.getElem?_extract]
      by_cases hi2 : i < w'.heap.size
      · rw [if_pos (by omega)]; congr 1; omega
      · rw [if_neg (by omega), Array.getElem?_eq_none (by omega)]
  cases w' with
  | mk hp tp dr o out =>
    simp only [] at h1 h2 h3 h4 h5 hd hh
    unfold Go.Sort.grow World.drewN
    simp only [World.mk.injEq]
    exact ⟨hh, h2, by omega, h1, h3⟩

def encL (l : List (List D)) (i : Nat) : List Value := (rowAt l i).map valD
theorem rowAt_mem {l : List (List D)} (h : 0 < l.length) (i : Nat) : l[i % l.length]? = some (rowAt l i) := by
  have hlt := Nat.mod_lt i h
  unfold rowAt
  rw [List.getD_eq_getElem?_getD, List.getElem?_eq_getElem hlt]; rfl

theorem cmp_lays {G : Nat → Option Sig} {F : Fns} (hF : FnOK P G F) {g : Nat} (hg : G g = some ⟨[.val, .val], [.one (.k (.int .i64))]⟩) (eg : ∀ args w, (callFunc g args).run P w = .ok (.enter g args) w)
    {l : List (List D)} {sz : Nat} {tbl : List (List Int)} (hn : 0 < l.length) (hfl : ∀ r ∈ l, ∀ d ∈ r, plainV d = true) (ht : mapO (fun x => mapO (fun y => askCmp F g x y) l) l = some tbl) (blk off : Nat) (w : World) :
    CmpLays P g #[] (encL l) sz (cfOf tbl l.length) blk off l.length w := by
  intro m os dk _ x y
  generalize sortWorldK (encL l) sz w blk off m dk os = W
  have hF2 : F g [.agg (rowAt l x), .agg (rowAt l y)] = some [.v (.int .i64 (cfOf tbl l.length x y))] := by
    obtain ⟨_, h1⟩ := mapO_get ht
    obtain ⟨row, h2, h3⟩ := h1 _ _ (rowAt_mem hn x)
    obtain ⟨_, h4⟩ := mapO_get h3
    obtain ⟨n, h5, h6⟩ := h4 _ _ (rowAt_mem hn y)
    have e : cfOf tbl l.length x y = n := by
      unfold cfOf
      have e1 : tbl.getD (x % l.length) [] = row := by rw [List.getD_eq_getElem?_getD, h2]; rfl
      rw [e1, List.getD_eq_getElem?_getD, h5]; rfl
    rw [e]
    unfold askCmp at h6
    simp only [Option.bind_eq_some_iff] at h6
    obtain ⟨r, h7, h8⟩ := h6
    rw [h7]
    split at h8
    · simp only [Option.some.injEq] at h8; subst h8; rfl
    · cases h8
  have hrel : ∀ i, RelS (inCol W none) (fun _ => (0, 0)) W [] (.one (.agg ((rowAt l i).map ofD))) (.agg (encL l i).toArray) := by
    intro i
    refine ⟨_, rfl, by simp [encL], fun j c hc => ?_⟩
    rw [List.getElem?_map] at hc
    obtain ⟨d, hd, rfl⟩ := Option.map_eq_some_iff.1 hc
    obtain ⟨v, rfl, hv, _⟩ := plainV_iff (hfl _ (List.mem_of_getElem? (rowAt_mem hn i)) _ (List.mem_of_getElem? hd))
    refine ⟨v, ?_, ?_⟩
    · simp only [encL, List.getElem?_toArray, List.getElem?_map, hd]; rfl
    · exact ⟨rfl, hv⟩
  have hc := hF g _ hg _ _ hF2 #[.agg (encL l x).toArray, .agg (encL l y).toArray] W (inLent W none) (inCol W none) (fun _ => (0, 0)) (in_inv W none) rfl (by
    intro i av hav
    match i, hav with
    | 0, hav => cases hav; exact ⟨_, rfl, hrel x⟩
    | 1, hav => cases hav; exact ⟨_, rfl, hrel y⟩
    | i + 2, hav => simp at hav)
  unfold Invokes at hc
  rw [eg] at hc
  refine Calls.mono hc fun e w' he => ?_
  cases e with
  | returned v =>
    have hb := post_below he
    have hv := post_int he
    subst hv
    obtain ⟨κ, β, hp, ss, hI, _, _⟩ := he
    exact ⟨rfl, grow_of hb hI.bs.2.2.2⟩
  | panicked ch => exact he.elim
  | outgrown => exact he.elim
end
end Go.Proofs.YtoiefmhmohhaeaaGreat.VE
/- slices.SortFunc, told by the kit's contract: what is told is done. -/
set_option linter.unusedSimpArgs false
set_option linter.unusedVariables false
namespace Go.Proofs.YtoiefmhmohhaeaaGreat.VE
section
variable {P : Program}

theorem sorted_perm {tbl : List (List Int)} {l : List (List D)} (hO : Go.Sort.SWO (ltOf (cfOf tbl l.length))) :
    (Go.Sort.pdq (ltOf (cfOf tbl l.length)) (Array.range l.length) 0 (Array.range l.length).size (Lib.bitLen (Array.range l.length).size) true true).toList.Perm (List.range l.length) := by
  have h := (Go.Sort.pdq_sorts (ltOf (cfOf tbl l.length)) hO (Array.range l.length) 0 (Array.range l.length).size (Lib.bitLen (Array.range l.length).size) true true (Nat.zero_le _) (Nat.le_refl _) (Or.inl rfl)).1
  obtain ⟨h1, _, h3⟩ := h
  have e : ∀ a : Array Nat, a.size = (Array.range l.length).size → a.extract 0 (Array.range l.length).size = a := fun a ha => by rw [← ha, Array.extract_size]
  rw [e _ h1, e _ rfl] at h3
  rw [Array.toList_range] at h3
  exact h3
theorem sorted_mem {tbl : List (List Int)} {l : List (List D)} (hO : Go.Sort.SWO (ltOf (cfOf tbl l.length))) : (sortedL tbl l).length = l.length ∧ ∀ x, x ∈ sortedL tbl l ↔ x ∈ l := by
  unfold sortedL
  split
  · rename_i h
    have := List.eq_nil_of_length_eq_zero h
    subst this
    exact ⟨rfl, fun x => Iff.rfl⟩
  · rename_i h
    have hp := sorted_perm (tbl := tbl) (l := l) hO
    refine ⟨by rw [List.length_map, hp.length_eq, List.length_range], fun x => ?_⟩
    have h0 : 0 < l.length := by omega
    simp only [List.mem_map]
    constructor
    · rintro ⟨i, _, rfl⟩
      exact List.mem_of_getElem? (rowAt_mem h0 i)
    · intro hx
      obtain ⟨i, hi⟩ := List.getElem?_of_mem hx
      have hlt : i < l.length := (List.getElem?_eq_some_iff.1 hi).1
      refine ⟨i, hp.mem_iff.2 (List.mem_range.2 hlt), ?_⟩
      have := rowAt_mem h0 i
      rw [Nat.mod_eq_of_lt hlt, hi] at this
      exact (Option.some.inj this).symm

theorem block_frozen {w : World} {b n o : Nat} (h : Block w b n) (ho : o < n) : w.frozen? ⟨b, o, none⟩ = false := by
  obtain ⟨cs, t, fr, h1, _, h3⟩ := h
  unfold World.frozen?
  have h3 := h3 o ho
  obtain ⟨lo, hi⟩ := fr
  simp only [h1]
  simp only [] at h3
  by_cases ha : lo ≤ o <;> by_cases hb : o < hi <;> simp_all
/-- The same block, other cells. -/
theorem Block.map {w : World} {b n : Nat} {f : Array Value → Array Value} (hf : ∀ c, (f c).size = c.size) (blk : Nat) (h : Block w b n) : Block (Go.Sort.mapBlock w blk f) b n := by
  obtain ⟨cs, t, fr, h1, h2, h3⟩ := h
  by_cases he : blk = b
  · subst he
    exact ⟨f cs, t, fr, by simp only [Go.Sort.mapBlock, Array.getElem?_modify, h1]; simp [Go.Sort.onCells], by rw [hf]; exact h2, h3⟩
  · exact ⟨cs, t, fr, by simp only [Go.Sort.mapBlock, Array.getElem?_modify, if_neg he]; exact h1, h2, h3⟩
theorem Block.grow {w : World} {b n : Nat} (os : Array Obj) (h : Block w b n) : Block (Go.Sort.grow w os) b n := by
  obtain ⟨cs, t, fr, h1, h2, h3⟩ := h
  have hlt : b < w.heap.size := (Array.getElem?_eq_some_iff.1 h1).1
  exact ⟨cs, t, fr, by rw [Go.Sort.heap_grow_old w os hlt]; exact h1, h2, h3⟩
theorem putCells_size {enc : Value → Value} {off : Nat} {d c : Array Value} : (Go.Sort.putCells enc off d c).size = c.size := by simp [Go.Sort.putCells]

open Go.Sort in
theorem sortX_ok {ρ : Go.Shelf.Ren} {G : Nat → Option Sig} {sz : Nat} {ok : Nat → Bool} (L : SlLaysF0.n6 P ρ) (aE : ∀ w, (isAgg (ρ.t 24)).run P w = .ok true w) (zE : ∀ w, (Go.sizeOf (ρ.t 24)).run P w = .ok sz w)
    (hok : ∀ g, ok g = true → (∀ args w, (callFunc g args).run P w = .ok (.enter g args) w) ∧ G g = some ⟨[.val, .val], [.one (.k (.int .i64))]⟩) (F : Fns) (hF : FnOK P G F) : FnOK1 P ⟨[.row sz, .val], []⟩ (ρ.f 6) (sortX sz ok F) := by
  intro avs rcs h margs w Ln κ β hI hsz hargs
  unfold sortX at h
  split at h
  · rename_i sz' l g
    split at h
    · rename_i hc
      obtain ⟨rfl, hg, hlen, hfl⟩ := hc
      simp only [Option.bind_eq_some_iff] at h
      obtain ⟨tbl, ht, h⟩ := h
      split at h
      · rename_i hO
        simp only [Option.some.injEq] at h
        subst h
        have hfl : ∀ r ∈ l, ∀ d ∈ r, plainV d = true := fun r hr d hd => List.all_eq_true.1 (List.all_eq_true.1 hfl r hr) d hd
        obtain ⟨y0, hy0, hr0⟩ := hargs 0 _ rfl
        obtain ⟨y1, hy1, hr1⟩ := hargs 1 _ rfl
        have hm : margs = #[y0, y1] := by
          have hs2 : margs.size = 2 := hsz
          apply Array.ext_getElem?
          intro i
          match i with
          | 0 => rw [hy0]; rfl
          | 1 => rw [hy1]; rfl
          | i + 2 => rw [Array.getElem?_eq_none (by omega)]; simp
        subst hm
        obtain ⟨arr, rfl, harr⟩ := hr1
        have harr : arr = #[] := Array.eq_empty_of_size_eq_zero harr.1
        subst harr
        have hlook : lookH (entryHp [.row sz' l, .fn g []] 0) 1000000 = some (.row sz' l) := rfl
        obtain ⟨hdom, _, hal, _⟩ := hr0
        obtain ⟨A, cap, rfl, hcap, hA⟩ := hal sz' l hlook
        obtain ⟨h0, hblk, hrow⟩ := hI.ob 1000000 _ hlook
        have e6 : ∀ args w, (callFunc (ρ.f 6) args).run P w = .ok (.enter (ρ.f 6) args) w := L.f6.enters rfl
        have told' : ∀ l', told ⟨[.row sz', .val], []⟩ [(1000000, some (.row sz' l'))] [] = some [.own l'] := by
          intro l'
          unfold told
          simp [tells, nodupN, leftK, lookH]
        unfold Invokes
        rw [e6]
        simp only []
        by_cases hl0 : l.length = 0
        · have hl := List.eq_nil_of_length_eq_zero hl0
          subst hl
          refine (AnyF.slices_SortFunc_none L A cap (.func (.func g) #[] #[]) w).mono ?_
          rintro e w' ⟨rfl, rfl⟩
          exact ⟨κ, β, entryHp [.row sz' [], .fn g []] 0, [], hI, ⟨#[], rfl, rfl, fun j x h => by simp at h⟩, told' []⟩
        · have hpos : 0 < l.length := by omega
          have hne : l ≠ [] := fun h => by subst h; exact hl0 rfl
          obtain ⟨hκ, hB⟩ := hblk.resolve_left hne
          obtain ⟨rfl, _, _⟩ := hA.resolve_left (by omega)
          rw [Nat.zero_mul, Nat.add_zero]
          generalize hb : (β 1000000).1 = b at *
          generalize ho : (β 1000000).2 = o at *
          have hrl : ∀ i, (rowAt l i).length = sz' := fun i => hrow.1 _ (List.mem_of_getElem? (rowAt_mem hpos i))
          have hk : ∀ i, (encL l i).length = sz' := fun i => by unfold encL; rw [List.length_map, hrl]
          have h1 : ∀ i, ∀ v ∈ encL l i, v.oneCell' = true := by
            intro i v hv
            unfold encL at hv
            obtain ⟨d, hd, rfl⟩ := List.mem_map.1 hv
            obtain ⟨x, rfl, _, hx⟩ := plainV_iff (hfl _ (List.mem_of_getElem? (rowAt_mem hpos i)) d hd)
            exact hx
          have hcell : ∀ i c, i < l.length → c < sz' → w.cell? ⟨b, o + i * sz' + c, none⟩ = some ((encL l i)[c]!) := by
            intro i c hi hc
            have hr : l[i]? = some (rowAt l i) := by have := rowAt_mem hpos i; rwa [Nat.mod_eq_of_lt hi] at this
            have hcl : c < (rowAt l i).length := by rw [hrl]; exact hc
            have hd := List.getElem?_eq_getElem hcl
            obtain ⟨y, hy, hcy⟩ := hrow.2 i _ c _ hr hd
            obtain ⟨x, hx, _⟩ := plainV_iff (hfl _ (List.mem_of_getElem? hr) _ (List.mem_of_getElem? hd))
            rw [hx] at hcy
            rw [Cell.v_iff] at hcy
            rw [hy, hcy.1]
            congr 1
            unfold encL
            rw [List.getElem!_eq_getElem?_getD, List.getElem?_map, hd, hx]
            rfl
          have hH : HoldsK (encL l) sz' w b o (Array.range l.length) := by
            intro j hj
            rw [size_flatK, Array.size_range] at hj
            rw [get_flatK _ _ _ _ (by rw [Array.size_range]; exact hj)]
            have hi : j / sz' < l.length := Nat.div_lt_of_lt_mul (by rw [Nat.mul_comm]; exact hj)
            have hc : j % sz' < sz' := Nat.mod_lt _ h0
            have e1 : (Array.range l.length)[j / sz']! = j / sz' := by simp [hi]
            have e2 : o + j = o + j / sz' * sz' + j % sz' := by have := Nat.div_add_mod j sz'; rw [Nat.mul_comm] at this; omega
            rw [e1]
            refine ⟨by rw [e2]; exact hcell _ _ hi hc, block_frozen hB (by omega)⟩
          have hbs : b < w.heap.size := by obtain ⟨cs, t, fr, h1, _⟩ := hB; exact (Array.getElem?_eq_some_iff.1 h1).1
          have hcon := AnyQ.slices_SortFunc_eq L sz' aE zE (encL l) hk h1 (cfOf tbl l.length) hO g #[] b o cap (Array.range l.length) w (hok g hg).1 (by rw [Array.size_range]; exact cmp_lays hF (hok g hg).2 (hok g hg).1 hpos hfl ht b o w) hH hbs (by rw [Array.size_range]; exact hlen)
          rw [Array.size_range] at hcon
          refine Calls.mono hcon ?_
          rintro e w' ⟨rfl, m, os, rfl⟩
          have hperm := sorted_perm (tbl := tbl) (l := l) hO
          have hsl : sortedL tbl l = (Go.Sort.pdq (ltOf (cfOf tbl l.length)) (Array.range l.length) 0 (Array.range l.length).size (Lib.bitLen (Array.range l.length).size) true true).toList.map (rowAt l) := by unfold sortedL; rw [if_neg hl0]
          rw [Array.size_range] at hperm hsl
          rw [hsl]
          generalize Go.Sort.pdq (ltOf (cfOf tbl l.length)) (Array.range l.length) 0 l.length (Lib.bitLen l.length) true true = dk at hperm
          have hdk : dk.size = l.length := by have := hperm.length_eq; rwa [List.length_range, Array.length_toList] at this
          refine ⟨κ, β, [(1000000, some (.row sz' (dk.toList.map (rowAt l))))], [], ?_, ⟨#[], rfl, rfl, fun j x h => by simp at h⟩, told' _⟩
          have hHk := holdsK_sortWorldK_c (encL l) sz' w b o (Array.range l.length) dk m os hH hbs (by rw [Array.size_range]; exact hdk)
          have hold : ∀ b', b' < w.heap.size → b' ≠ b → (sortWorldK (encL l) sz' w b o m dk os).heap[b']? = w.heap[b']? := by
            intro b' hb' hne
            unfold sortWorldK
            rw [heap_grow_old _ _ (by rw [size_putRowK]; exact hb')]
            show (putRowK (encL l) sz' (Sort.ahead w m) b o dk).heap[b']? = _
            simp only [putRowK, putRow, mapBlock, Array.getElem?_modify, if_neg (Ne.symm hne)]
            rfl
          have hblocks : ∀ b' n, Block w b' n → Block (sortWorldK (encL l) sz' w b o m dk os) b' n := by
            intro b' n hB'
            unfold sortWorldK
            refine Block.grow os ?_
            unfold putRowK putRow
            exact Block.map (fun c => putCells_size) b (w := Sort.ahead w m) hB'
          have hlk : ∀ id ob, lookH [(1000000, some (O.row sz' (dk.toList.map (rowAt l))))] id = some ob → id = 1000000 ∧ ob = .row sz' (dk.toList.map (rowAt l)) := by
            intro id ob h
            simp only [lookH] at h
            cases hid : Nat.beq 1000000 id with
            | true =>
              rw [hid] at h
              simp only [cond_true, Option.some.injEq] at h
              exact ⟨(Nat.eq_of_beq_eq_true hid).symm, h.symm⟩
            | false => rw [hid] at h; cases h
          refine ⟨fun id ob h => ?_, Nat.le_trans (Nat.le_refl _) (size_sortWorldK_c (encL l) sz' w b o m dk os), fun b' hb' hk' => ?_, fun b' hb' => ?_, hI.frz, hI.mine, fun id s es hf h => ?_, ?_, ?_⟩
          · obtain ⟨rfl, rfl⟩ := hlk id ob h
            refine ⟨h0, .inr ⟨?_, ?_⟩, ?_, ?_⟩
            · rw [hb]; exact hκ
            · rw [hb, ho, List.length_map, Array.length_toList, hdk]
              exact hblocks _ _ hB
            · intro r hr
              obtain ⟨i, _, rfl⟩ := List.mem_map.1 hr
              exact hrl i
            · intro i r j d hr hd
              rw [List.getElem?_map] at hr
              obtain ⟨x, hx, rfl⟩ := Option.map_eq_some_iff.1 hr
              have hi : i < dk.size := by rw [← Array.length_toList]; exact (List.getElem?_eq_some_iff.1 hx).1
              have hj : j < sz' := by rw [← hrl x]; exact (List.getElem?_eq_some_iff.1 hd).1
              obtain ⟨v, rfl, hv, _⟩ := plainV_iff (hfl _ (List.mem_of_getElem? (rowAt_mem hpos x)) _ (List.mem_of_getElem? hd))
              refine ⟨v, ?_, .v hv⟩
              rw [hb, ho, (hHk.cell hi hj).1]
              congr 1
              have ex : dk[i]! = x := by
                rw [getElem!_pos dk i hi]
                rw [Array.getElem?_toList, Array.getElem?_eq_getElem hi] at hx
                exact Option.some.inj hx
              rw [ex]
              unfold encL
              rw [List.getElem!_eq_getElem?_getD, List.getElem?_map, hd]
              rfl
          · refine hold b' hb' fun he => ?_
            subst he
            rw [hκ] at hk'
            simp at hk'
          · exact hI.new b' (Nat.le_trans (size_sortWorldK_c (encL l) sz' w b o m dk os) hb')
          · obtain ⟨e0, e⟩ := hlk id _ h
            injection e with e1 e2
            rw [e2, List.length_map, Array.length_toList, hdk]
            have hf' : fixedId 1000000 = true := by rw [← e0]; exact hf
            rw [e0]
            exact hI.len 1000000 sz' l hf' hlook
          · exact ⟨rfl, rfl, rfl, Nat.le_add_right _ _⟩
          · refine ⟨fun id ob hf h => ?_, hI.kp.old, hI.kp.fix⟩
            obtain ⟨e0, _⟩ := hlk id ob h
            have hf' : fixedId 1000000 = true := by rw [← e0]; exact hf
            obtain ⟨e, hbk⟩ := hI.kp.pl 1000000 _ hf' hlook
            rw [e0]
            exact ⟨e, fun n hn => hblocks _ _ hn⟩
      · cases h
    · cases h
  · cases h
end
end Go.Proofs.YtoiefmhmohhaeaaGreat.VE
