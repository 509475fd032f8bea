import PyProof.Rows.All
import Wide.All
import OpenK.AllK
import Wide.FinOn
import HandS.ForMost
import HandS.ForExc
import HandS.IsInst
import HandS.Deep
import HandS.SortInts
import HandS.SortRule
import HandS.Wide
import HandS.Evl
import HandS.ExcIs
import HandS.HotCalls
import HandS.TryMany
import PySem.Challenge.RW_setchains_k19_read
set_option Elab.async false
set_option linter.all false
set_option maxRecDepth 100000
set_option maxHeartbeats 4000000
set_option linter.all false
namespace SC
/-! ### lists -/
/-- rising -/
abbrev Up (l : List Int) : Prop := l.Pairwise (· < ·)
def irange (n : Nat) : List Int := (List.range n).map fun i : Nat => (i : Int)
theorem irange_succ (n : Nat) : irange (n + 1) = irange n ++ [(n : Int)] := by
  unfold irange
  rw [List.range_succ, List.map_append]
  rfl
theorem irange_len (n : Nat) : (irange n).length = n := by simp [irange]
theorem mem_irange {n : Nat} {x : Int} : x ∈ irange n ↔ 0 ≤ x ∧ x < n := by
  unfold irange
  rw [List.mem_map]
  constructor
  · rintro ⟨i, hi, rfl⟩
    have := List.mem_range.mp hi
    omega
  · intro h
    exact ⟨x.toNat, List.mem_range.mpr (by omega), by omega⟩
theorem irange_up (n : Nat) : Up (irange n) := by
  induction n with
  | zero => exact List.Pairwise.nil
  | succ n ih =>
    rw [irange_succ]
    refine List.pairwise_append.mpr ⟨ih, List.pairwise_singleton _ _, fun a ha b hb => ?_⟩
    have := mem_irange.mp ha
    rw [List.mem_singleton] at hb
    omega
theorem irange_get {n i : Nat} (h : i < n) : (irange n)[i]? = some (i : Int) := by
  unfold irange
  rw [List.getElem?_map, List.getElem?_range h]
  rfl
theorem up_nodup {l : List Int} (h : Up l) : l.Nodup := h.imp fun h e => by omega
/-- rising lists of the same members are one -/
theorem up_ext : ∀ {l m : List Int}, Up l → Up m → (∀ x, x ∈ l ↔ x ∈ m) → l = m
  | [], [], _, _, _ => rfl
  | [], y :: m, _, _, h => absurd ((h y).mpr (List.mem_cons_self ..)) (by simp)
  | x :: l, [], _, _, h => absurd ((h x).mp (List.mem_cons_self ..)) (by simp)
  | x :: l, y :: m, hl, hm, h => by
    obtain ⟨hx, hl'⟩ := List.pairwise_cons.mp hl
    obtain ⟨hy, hm'⟩ := List.pairwise_cons.mp hm
    have e : x = y := by
      rcases List.mem_cons.mp ((h x).mp (List.mem_cons_self ..)) with e | e
      · exact e
      · rcases List.mem_cons.mp ((h y).mpr (List.mem_cons_self ..)) with q | q
        · exact q.symm
        · have := hx y q
          have := hy x e
          omega
    subst e
    have e2 : l = m := up_ext hl' hm' fun z => by
      constructor
      · intro hz
        rcases List.mem_cons.mp ((h z).mp (List.mem_cons_of_mem _ hz)) with q | q
        · have := hx z hz
          omega
        · exact q
      · intro hz
        rcases List.mem_cons.mp ((h z).mpr (List.mem_cons_of_mem _ hz)) with q | q
        · have := hy z hz
          omega
        · exact q
    rw [e2]
theorem up_filter {l : List Int} (h : Up l) (p : Int → Bool) : Up (l.filter p) := h.filter p
theorem up_take {l : List Int} (h : Up l) (j : Nat) : Up (l.take j) := h.sublist (List.take_sublist j l)
theorem up_drop {l : List Int} (h : Up l) (j : Nat) : Up (l.drop j) := h.sublist (List.drop_sublist j l)
/-- a set of so many things -/
structure IsSet (n : Nat) (ms : List Int) : Prop where
  up : Up ms
  lo : ∀ x ∈ ms, 0 ≤ x
  hi : ∀ x ∈ ms, x < n
theorem IsSet.eq {n : Nat} {ms : List Int} (h : IsSet n ms) : (irange n).filter (fun x => decide (x ∈ ms)) = ms := by
  refine up_ext (up_filter (irange_up n) _) h.up fun x => ?_
  rw [List.mem_filter, mem_irange]
  constructor
  · rintro ⟨_, q⟩
    exact of_decide_eq_true q
  · intro q
    exact ⟨⟨h.lo x q, h.hi x q⟩, decide_eq_true q⟩
theorem isSet_of {n : Nat} (p : Int → Bool) : IsSet n ((irange n).filter p) where
  up := up_filter (irange_up n) p
  lo := fun x h => (mem_irange.mp (List.mem_filter.mp h).1).1
  hi := fun x h => (mem_irange.mp (List.mem_filter.mp h).1).2
theorem IsSet.len {n : Nat} {ms : List Int} (h : IsSet n ms) : ms.length ≤ n := by
  have e := congrArg List.length h.eq
  have l := List.length_filter_le (fun x => decide (x ∈ ms)) (irange n)
  rw [irange_len] at l
  omega
theorem isSet_nil (n : Nat) : IsSet n [] := ⟨List.Pairwise.nil, (fun _ h => nomatch h), (fun _ h => nomatch h)⟩

/-! ### sorting -/
def insB {α : Type} (le : α → α → Bool) (x : α) : List α → List α
  | [] => [x]
  | y :: r => if le x y then x :: y :: r else y :: insB le x r
def sortB {α : Type} (le : α → α → Bool) : List α → List α
  | [] => []
  | x :: r => insB le x (sortB le r)
theorem insB_perm {α : Type} (le : α → α → Bool) (x : α) : ∀ l : List α, (insB le x l).Perm (x :: l)
  | [] => List.Perm.refl _
  | y :: r => by
    unfold insB
    split
    · exact List.Perm.refl _
    · exact ((insB_perm le x r).cons y).trans (List.Perm.swap x y r)
theorem sortB_perm {α : Type} (le : α → α → Bool) : ∀ l : List α, (sortB le l).Perm l
  | [] => List.Perm.refl _
  | x :: r => (insB_perm le x _).trans ((sortB_perm le r).cons x)
theorem insB_pw {α : Type} {le : α → α → Bool} (tot : ∀ a b, le a b = true ∨ le b a = true) (tr : ∀ a b c, le a b = true → le b c = true → le a c = true) (x : α) :
    ∀ l : List α, l.Pairwise (fun a b => le a b = true) → (insB le x l).Pairwise (fun a b => le a b = true)
  | [], _ => List.pairwise_singleton _ _
  | y :: r, h => by
    obtain ⟨h1, h2⟩ := List.pairwise_cons.mp h
    unfold insB
    split
    · rename_i hle
      refine List.pairwise_cons.mpr ⟨fun z hz => ?_, h⟩
      rcases List.mem_cons.mp hz with e | hz
      · rw [e]; exact hle
      · exact tr _ _ _ hle (h1 z hz)
    · rename_i hle
      refine List.pairwise_cons.mpr ⟨fun z hz => ?_, insB_pw tot tr x r h2⟩
      rcases List.mem_cons.mp ((insB_perm le x r).mem_iff.mp hz) with e | hz
      · rw [e]
        rcases tot x y with q | q
        · exact absurd q hle
        · exact q
      · exact h1 z hz
theorem sortB_pw {α : Type} {le : α → α → Bool} (tot : ∀ a b, le a b = true ∨ le b a = true) (tr : ∀ a b c, le a b = true → le b c = true → le a c = true) :
    ∀ l : List α, (sortB le l).Pairwise (fun a b => le a b = true)
  | [] => List.Pairwise.nil
  | x :: r => insB_pw tot tr x _ (sortB_pw tot tr r)
/-- sorted rearrangements are one -/
theorem pw_uniq {α : Type} {le : α → α → Bool} : ∀ {l m : List α}, (∀ a ∈ l, ∀ b ∈ l, le a b = true → le b a = true → a = b) → l.Pairwise (fun a b => le a b = true) → m.Pairwise (fun a b => le a b = true) → l.Perm m → l = m
  | [], m, _, _, _, p => (List.Perm.eq_nil p.symm).symm
  | x :: l, [], _, _, _, p => absurd p.length_eq (by simp)
  | x :: l, y :: m, an, hl, hm, p => by
    obtain ⟨hx, hl'⟩ := List.pairwise_cons.mp hl
    obtain ⟨hy, hm'⟩ := List.pairwise_cons.mp hm
    have e : x = y := by
      rcases List.mem_cons.mp (p.mem_iff.mp (List.mem_cons_self (a := x) (l := l))) with q | q
      · exact q
      · rcases List.mem_cons.mp (p.mem_iff.mpr (List.mem_cons_self (a := y) (l := m))) with r | r
        · exact r.symm
        · exact an x (List.mem_cons_self ..) y (List.mem_cons_of_mem _ r) (hx y r) (hy x q)
    subst e
    rw [pw_uniq (fun a ha b hb => an a (List.mem_cons_of_mem _ ha) b (List.mem_cons_of_mem _ hb)) hl' hm' p.cons_inv]
def leI (a b : Int) : Bool := decide (a ≤ b)
abbrev isort (l : List Int) : List Int := sortB leI l
theorem isort_pw (l : List Int) : (isort l).Pairwise (· ≤ ·) := by
  have h := sortB_pw (le := leI) (fun a b => by unfold leI; simp only [decide_eq_true_eq]; omega) (fun a b c => by unfold leI; simp only [decide_eq_true_eq]; omega) l
  exact h.imp fun {a b} h => of_decide_eq_true h
theorem isort_uniq {l m : List Int} (hl : l.Pairwise (· ≤ ·)) (p : l.Perm m) : l = isort m := by
  refine pw_uniq (le := leI) (fun a _ b _ h1 h2 => ?_) (hl.imp fun h => decide_eq_true h) ?_ (p.trans (sortB_perm leI m).symm)
  · have := of_decide_eq_true h1
    have := of_decide_eq_true h2
    omega
  · exact (isort_pw m).imp fun h => decide_eq_true h
theorem isort_mem {l : List Int} {x : Int} : x ∈ isort l ↔ x ∈ l := (sortB_perm leI l).mem_iff
theorem isort_len (l : List Int) : (isort l).length = l.length := (sortB_perm leI l).length_eq
theorem isort_up {l : List Int} (h : l.Nodup) : Up (isort l) := by
  have n : (isort l).Nodup := (sortB_perm leI l).nodup_iff.mpr h
  have p := isort_pw l
  generalize isort l = k at n p
  induction k with
  | nil => exact List.Pairwise.nil
  | cons x r ih =>
    obtain ⟨p1, p2⟩ := List.pairwise_cons.mp p
    obtain ⟨n1, n2⟩ := List.nodup_cons.mp n
    refine List.pairwise_cons.mpr ⟨fun y hy => ?_, ih n2 p2⟩
    have := p1 y hy
    have ne : x ≠ y := fun e => n1 (e ▸ hy)
    omega
/-- pairs by their first, then their second -/
def leP (a b : Int × Int) : Bool := decide (a.1 < b.1 ∨ a.1 = b.1 ∧ a.2 ≤ b.2)
abbrev psort (l : List (Int × Int)) : List (Int × Int) := sortB leP l
theorem psort_uniq {l m : List (Int × Int)} (hl : l.Pairwise (fun a b => leP a b = true)) (p : l.Perm m) : l = psort m := by
  refine pw_uniq (le := leP) (fun a _ b _ h1 h2 => ?_) hl ?_ (p.trans (sortB_perm leP m).symm)
  · have h1 := of_decide_eq_true h1
    have h2 := of_decide_eq_true h2
    obtain ⟨a1, a2⟩ := a
    obtain ⟨b1, b2⟩ := b
    simp only at h1 h2
    have e1 : a1 = b1 := by omega
    have e2 : a2 = b2 := by omega
    rw [e1, e2]
  · refine sortB_pw (fun a b => ?_) (fun a b c h1 h2 => ?_) m
    · unfold leP
      simp only [decide_eq_true_eq]
      omega
    · unfold leP at *
      simp only [decide_eq_true_eq] at *
      omega
theorem psort_mem {l : List (Int × Int)} {x : Int × Int} : x ∈ psort l ↔ x ∈ l := (sortB_perm leP l).mem_iff
theorem psort_len (l : List (Int × Int)) : (psort l).length = l.length := (sortB_perm leP l).length_eq
/-! ### the program's own look at a set -/
def setOk (m : Int) : Int → List Int → Bool
  | _, [] => true
  | b, x :: r => if x ≤ b ∨ m ≤ x then false else setOk m x r
theorem setOk_iff {m : Int} : ∀ {b : Int} {l : List Int}, setOk m b l = true ↔ Up l ∧ (∀ x ∈ l, b < x) ∧ ∀ x ∈ l, x < m
  | b, [] => by simp [setOk]
  | b, x :: r => by
    unfold setOk
    split
    · rename_i h
      constructor
      · intro z; cases z
      · rintro ⟨h1, h2, h3⟩
        have := h2 x (List.mem_cons_self ..)
        have := h3 x (List.mem_cons_self ..)
        omega
    · rename_i h
      rw [setOk_iff (b := x) (l := r)]
      constructor
      · rintro ⟨h1, h2, h3⟩
        refine ⟨List.pairwise_cons.mpr ⟨h2, h1⟩, fun y hy => ?_, fun y hy => ?_⟩
        · rcases List.mem_cons.mp hy with e | e
          · omega
          · have := h2 y e
            omega
        · rcases List.mem_cons.mp hy with e | e
          · omega
          · exact h3 y e
      · rintro ⟨h1, h2, h3⟩
        obtain ⟨h4, h5⟩ := List.pairwise_cons.mp h1
        exact ⟨h5, h4, fun y hy => h3 y (List.mem_cons_of_mem _ hy)⟩
theorem setOk_set {n : Nat} {ms : List Int} : setOk n (-1) ms = true ↔ IsSet n ms := by
  rw [setOk_iff]
  constructor
  · rintro ⟨h1, h2, h3⟩
    exact ⟨h1, fun x hx => by have := h2 x hx; omega, h3⟩
  · intro h
    exact ⟨h.up, fun x hx => by have := h.lo x hx; omega, h.hi⟩
end SC
namespace SC
/-! ### the machine of pairs: things gone through from nought on -/
structure S3 where
  prs : List (Int × Int)
  aln : List Int
  wt : List Int
/-- one thing: a member closes the last that waits, if any; another one waits -/
def stp (b : Bool) (t : Int) (s : S3) : S3 :=
  if b then
    match s.wt.getLast? with
    | some w => ⟨s.prs ++ [(w, t)], s.aln, s.wt.dropLast⟩
    | none => ⟨s.prs, s.aln ++ [t], s.wt⟩
  else ⟨s.prs, s.aln, s.wt ++ [t]⟩
def st (f : Int → Bool) : Nat → S3
  | 0 => ⟨[], [], []⟩
  | i + 1 => stp (f i) i (st f i)
theorem stp_no (t : Int) (s : S3) : stp false t s = ⟨s.prs, s.aln, s.wt ++ [t]⟩ := rfl
theorem stp_alone {t : Int} {s : S3} (h : s.wt = []) : stp true t s = ⟨s.prs, s.aln ++ [t], []⟩ := by
  unfold stp
  rw [h]
  rfl
theorem stp_pop {t w : Int} {s : S3} {r : List Int} (h : s.wt = r ++ [w]) : stp true t s = ⟨s.prs ++ [(w, t)], s.aln, r⟩ := by
  unfold stp
  rw [h]
  simp
theorem snoc_cases {α : Type} (l : List α) : l = [] ∨ ∃ r w, l = r ++ [w] := by
  cases e : l.getLast? with
  | none => exact .inl (List.getLast?_eq_none_iff.mp e)
  | some w =>
    refine .inr ⟨l.dropLast, w, ?_⟩
    have hn : l ≠ [] := fun z => by rw [z] at e; cases e
    have e2 := List.getLast?_eq_some_getLast hn
    rw [e] at e2
    rw [Option.some.inj e2]
    exact (List.dropLast_concat_getLast hn).symm
theorem st_congr {f g : Int → Bool} : ∀ {n : Nat}, (∀ i : Nat, i < n → f i = g i) → st f n = st g n
  | 0, _ => rfl
  | n + 1, h => by
    show stp (f n) n (st f n) = stp (g n) n (st g n)
    rw [h n (by omega), st_congr fun i hi => h i (by omega)]
def firsts (p : List (Int × Int)) : List Int := p.map (·.1)
def seconds (p : List (Int × Int)) : List Int := p.map (·.2)
theorem firsts_snoc (p : List (Int × Int)) (x : Int × Int) : firsts (p ++ [x]) = firsts p ++ [x.1] := by simp [firsts]
theorem seconds_snoc (p : List (Int × Int)) (x : Int × Int) : seconds (p ++ [x]) = seconds p ++ [x.2] := by simp [seconds]

/-- what holds behind i things -/
structure Ok (f : Int → Bool) (i : Nat) (s : S3) : Prop where
  wt : s.wt = (irange i).filter fun x => !f x && !(firsts s.prs).contains x
  aln : s.aln = (irange i).filter fun x => f x && !(seconds s.prs).contains x
  fst : ∀ p ∈ s.prs, 0 ≤ p.1 ∧ p.1 < p.2 ∧ p.2 < i ∧ f p.1 = false ∧ f p.2 = true
  nd1 : (firsts s.prs).Nodup
  nd2 : Up (seconds s.prs)
  sep : ∀ x ∈ s.aln, ∀ y ∈ s.wt, x < y
  sum : 2 * s.prs.length + s.aln.length + s.wt.length = i
theorem mem_firsts {p : List (Int × Int)} {x : Int} : x ∈ firsts p ↔ ∃ y, (x, y) ∈ p := by
  unfold firsts
  rw [List.mem_map]
  constructor
  · rintro ⟨⟨a, b⟩, h, rfl⟩
    exact ⟨b, h⟩
  · rintro ⟨y, h⟩
    exact ⟨(x, y), h, rfl⟩
theorem mem_seconds {p : List (Int × Int)} {x : Int} : x ∈ seconds p ↔ ∃ y, (y, x) ∈ p := by
  unfold seconds
  rw [List.mem_map]
  constructor
  · rintro ⟨⟨a, b⟩, h, rfl⟩
    exact ⟨a, h⟩
  · rintro ⟨y, h⟩
    exact ⟨(y, x), h, rfl⟩
theorem filter_congr' {α : Type} {p q : α → Bool} {l : List α} (h : ∀ x ∈ l, p x = q x) : l.filter p = l.filter q := List.filter_congr h
theorem up_last {r : List Int} {w : Int} (h : Up (r ++ [w])) : (∀ x ∈ r, x < w) ∧ Up r := by
  obtain ⟨h1, _, h3⟩ := List.pairwise_append.mp h
  exact ⟨fun x hx => h3 x hx w (List.mem_singleton.mpr rfl), h1⟩
theorem filter_ne_last {r : List Int} {w : Int} (h : Up (r ++ [w])) : (r ++ [w]).filter (fun x => x != w) = r := by
  obtain ⟨h1, _⟩ := up_last h
  rw [List.filter_append]
  have e1 : r.filter (fun x => x != w) = r := List.filter_eq_self.mpr fun x hx => by
    have := h1 x hx
    simp
    omega
  rw [e1]
  simp
theorem ok_st (f : Int → Bool) : ∀ i : Nat, Ok f i (st f i)
  | 0 => ⟨rfl, rfl, (fun p h => nomatch h), List.nodup_nil, List.Pairwise.nil, (fun x h => nomatch h), rfl⟩
  | i + 1 => by
    have o := ok_st f i
    show Ok f (i + 1) (stp (f i) i (st f i))
    generalize st f i = s at o
    obtain ⟨P, A, W⟩ := s
    obtain ⟨hW, hA, hF, n1, n2, sp, sm⟩ := o
    dsimp only at *
    have mi : ∀ x ∈ irange i, x ≠ (i : Int) := fun x hx e => by
      have := mem_irange.mp hx
      omega
    have bF : (firsts P).contains (i : Int) = false := by
      cases e : (firsts P).contains (i : Int) with
      | false => rfl
      | true =>
        obtain ⟨y, hy⟩ := mem_firsts.mp (List.contains_iff_mem.mp e)
        have := hF _ hy
        dsimp only at this
        omega
    have bS : (seconds P).contains (i : Int) = false := by
      cases e : (seconds P).contains (i : Int) with
      | false => rfl
      | true =>
        obtain ⟨y, hy⟩ := mem_seconds.mp (List.contains_iff_mem.mp e)
        have := hF _ hy
        dsimp only at this
        omega
    have upW : Up W := by
      rw [hW]
      exact up_filter (irange_up i) _
    have memW : ∀ x ∈ W, 0 ≤ x ∧ x < i ∧ f x = false ∧ x ∉ firsts P := fun x hx => by
      rw [hW] at hx
      obtain ⟨h1, h2⟩ := List.mem_filter.mp hx
      rw [Bool.and_eq_true, Bool.not_eq_true', Bool.not_eq_true'] at h2
      have := mem_irange.mp h1
      refine ⟨this.1, this.2, h2.1, fun z => ?_⟩
      have := List.contains_iff_mem.mpr z
      rw [h2.2] at this
      cases this
    have memA : ∀ x ∈ A, x < i := fun x hx => by
      rw [hA] at hx
      exact (mem_irange.mp (List.mem_filter.mp hx).1).2
    cases hf : f i with
    | false =>
      rw [stp_no]
      refine ⟨?_, ?_, fun p hp => ?_, n1, n2, fun x hx y hy => ?_, ?_⟩
      · dsimp only
        rw [irange_succ, List.filter_append, ← hW]
        congr 1
        rw [List.filter_cons, if_pos (by rw [hf, bF]; rfl)]
        rfl
      · dsimp only
        rw [irange_succ, List.filter_append, ← hA]
        rw [List.filter_cons, if_neg (by rw [hf]; simp)]
        simp
      · have := hF p hp
        exact ⟨this.1, this.2.1, by omega, this.2.2.2⟩
      · dsimp only at hx hy
        rcases List.mem_append.mp hy with hy | hy
        · exact sp x hx y hy
        · rw [List.mem_singleton] at hy
          have := memA x hx
          omega
      · dsimp only
        rw [List.length_append, List.length_singleton]
        omega
    | true =>
      rcases snoc_cases W with e | ⟨r, w, e⟩
      · subst e
        rw [stp_alone rfl]
        refine ⟨?_, ?_, fun p hp => ?_, n1, n2, fun x hx y hy => (nomatch hy), ?_⟩
        · dsimp only
          rw [irange_succ, List.filter_append, ← hW]
          rw [List.filter_cons, if_neg (by rw [hf]; simp)]
          rfl
        · dsimp only
          rw [irange_succ, List.filter_append, ← hA]
          congr 1
          rw [List.filter_cons, if_pos (by rw [hf, bS]; rfl)]
          rfl
        · have := hF p hp
          exact ⟨this.1, this.2.1, by omega, this.2.2.2⟩
        · dsimp only at sm ⊢
          rw [List.length_append, List.length_singleton]
          simp only [List.length_nil] at sm ⊢
          omega
      · subst e
        rw [stp_pop rfl]
        have hw := memW w (List.mem_append_right _ (List.mem_singleton.mpr rfl))
        refine ⟨?_, ?_, fun p hp => ?_, ?_, ?_, fun x hx y hy => sp x hx y (List.mem_append_left _ hy), ?_⟩
        · dsimp only
          rw [irange_succ, List.filter_append, firsts_snoc]
          rw [List.filter_cons, if_neg (by rw [hf]; simp), List.filter_nil, List.append_nil]
          have e1 : (irange i).filter (fun x => !f x && !(firsts P ++ [w]).contains x) = ((irange i).filter (fun x => !f x && !(firsts P).contains x)).filter (fun x => x != w) := by
            rw [List.filter_filter]
            refine List.filter_congr fun x hx => ?_
            simp only [List.contains_append, List.contains_cons, List.contains_nil, Bool.or_false]
            show _ = (!(x == w) && (!f x && !(firsts P).contains x))
            generalize f x = a
            generalize (firsts P).contains x = b
            generalize (x == w) = c
            cases a <;> cases b <;> cases c <;> rfl
          rw [e1, ← hW]
          exact (filter_ne_last upW).symm
        · dsimp only
          rw [irange_succ, List.filter_append, seconds_snoc]
          rw [List.filter_cons, if_neg (by simp [List.contains_append]), List.filter_nil, List.append_nil]
          rw [hA]
          refine List.filter_congr fun x hx => ?_
          have nx := mi x hx
          simp only [List.contains_append, List.contains_cons, List.contains_nil, Bool.or_false]
          have : (x == (i : Int)) = false := by simpa using nx
          rw [this, Bool.or_false]
        · dsimp only at hp
          rcases List.mem_append.mp hp with hp | hp
          · have := hF p hp
            exact ⟨this.1, this.2.1, by omega, this.2.2.2⟩
          · rw [List.mem_singleton] at hp
            subst hp
            exact ⟨hw.1, hw.2.1, by dsimp only; omega, hw.2.2.1, hf⟩
        · dsimp only
          rw [firsts_snoc]
          refine List.nodup_append.mpr ⟨n1, by simp, fun a ha b hb e => ?_⟩
          rw [List.mem_singleton] at hb
          subst hb
          exact hw.2.2.2 (e ▸ ha)
        · dsimp only
          rw [seconds_snoc]
          refine List.pairwise_append.mpr ⟨n2, List.pairwise_singleton _ _, fun a ha b hb => ?_⟩
          rw [List.mem_singleton] at hb
          obtain ⟨y, hy⟩ := mem_seconds.mp ha
          have := hF _ hy
          dsimp only at this hb
          omega
        · dsimp only at sm ⊢
          rw [List.length_append, List.length_singleton] at *
          omega
end SC
namespace SC
/-! ### the law's own pairs -/
def free (f : Int → Bool) (cl : List Int) (t : Int) : List Int := (irange t.toNat).filter fun k => !f k && !cl.contains k
def lstep (f : Int → Bool) (found : List (Int × Int)) (t : Int) : List (Int × Int) :=
  match (free f (firsts found) t).getLast? with
  | some w => found ++ [(w, t)]
  | none => found
def lpairs (f : Int → Bool) (ms : List Int) : List (Int × Int) := ms.foldl (lstep f) []
theorem lpairs_eq (f : Int → Bool) : ∀ n : Nat, lpairs f ((irange n).filter f) = (st f n).prs
  | 0 => rfl
  | n + 1 => by
    have o := ok_st f n
    have ih := lpairs_eq f n
    rw [irange_succ, List.filter_append]
    show _ = (stp (f n) n (st f n)).prs
    cases hf : f n with
    | false =>
      rw [List.filter_cons, if_neg (by rw [hf]; simp), List.filter_nil, List.append_nil, ih]
      rfl
    | true =>
      rw [List.filter_cons, if_pos hf, List.filter_nil]
      unfold lpairs at ih ⊢
      rw [List.foldl_append, ih]
      show lstep f (st f n).prs n = _
      unfold lstep
      have e : free f (firsts (st f n).prs) n = (st f n).wt := o.wt.symm
      rw [e]
      rcases snoc_cases (st f n).wt with q | ⟨r, w, q⟩
      · rw [stp_alone q, q]
        rfl
      · rw [stp_pop q, q, List.getLast?_concat]
/-- members by a list -/
def mem (ms : List Int) : Int → Bool := fun x => ms.contains x
theorem mem_true {ms : List Int} {x : Int} : mem ms x = true ↔ x ∈ ms := List.contains_iff_mem
theorem mem_false {ms : List Int} {x : Int} : mem ms x = false ↔ x ∉ ms := by
  cases h : mem ms x with
  | true => simp [mem_true.mp h]
  | false =>
    refine ⟨fun _ q => ?_, fun _ => rfl⟩
    rw [mem_true.mpr q] at h
    cases h
theorem IsSet.eqf {n : Nat} {ms : List Int} (h : IsSet n ms) : (irange n).filter (mem ms) = ms := by
  refine Eq.trans (List.filter_congr fun x _ => ?_) h.eq
  cases q : mem ms x with
  | true => exact (decide_eq_true (mem_true.mp q)).symm
  | false => exact (decide_eq_false (mem_false.mp q)).symm
/-- the machine's state behind all things -/
def fin (n : Nat) (ms : List Int) : S3 := st (mem ms) n
theorem law_pairs {n : Nat} {ms : List Int} (h : IsSet n ms) : lpairs (mem ms) ms = (fin n ms).prs := by
  have e := lpairs_eq (mem ms) n
  rw [h.eqf] at e
  exact e
/-- the law's loose members and loose others -/
def takenBy (ps : List (Int × Int)) (x : Int) : Bool := (firsts ps).contains x || (seconds ps).contains x
theorem law_alone {n : Nat} {ms : List Int} (h : IsSet n ms) : ms.filter (fun x => !takenBy (fin n ms).prs x) = (fin n ms).aln := by
  have o := ok_st (mem ms) n
  have e : (fin n ms).aln = _ := o.aln
  have e2 : ms.filter (fun x => !takenBy (fin n ms).prs x) = ((irange n).filter (mem ms)).filter (fun x => !takenBy (fin n ms).prs x) := by rw [h.eqf]
  rw [e, e2, List.filter_filter]
  refine List.filter_congr fun x _ => ?_
  unfold takenBy
  show (!((firsts (st (mem ms) n).prs).contains x || _) && mem ms x) = (mem ms x && _)
  cases q : mem ms x with
  | false => simp
  | true =>
    have : (firsts (st (mem ms) n).prs).contains x = false := by
      cases z : (firsts (st (mem ms) n).prs).contains x with
      | false => rfl
      | true =>
        obtain ⟨y, hy⟩ := mem_firsts.mp (List.contains_iff_mem.mp z)
        have := (o.fst _ hy).2.2.2.1
        dsimp only at this
        rw [q] at this
        cases this
    rw [this]
    simp
    rfl
theorem law_others {n : Nat} {ms : List Int} (h : IsSet n ms) : (irange n).filter (fun x => !takenBy (fin n ms).prs x && !mem ms x) = (fin n ms).wt := by
  have o := ok_st (mem ms) n
  have e : (fin n ms).wt = _ := o.wt
  rw [e]
  refine List.filter_congr fun x _ => ?_
  unfold takenBy
  show (!(_ || (seconds (st (mem ms) n).prs).contains x) && !mem ms x) = (!mem ms x && !_)
  cases q : mem ms x with
  | true => simp
  | false =>
    have : (seconds (st (mem ms) n).prs).contains x = false := by
      cases z : (seconds (st (mem ms) n).prs).contains x with
      | false => rfl
      | true =>
        obtain ⟨y, hy⟩ := mem_seconds.mp (List.contains_iff_mem.mp z)
        have := (o.fst _ hy).2.2.2.2
        dsimp only at this
        rw [q] at this
        cases this
    rw [this]
    simp
    rfl
theorem fin_aln_set {n : Nat} (ms : List Int) : IsSet n (fin n ms).aln := by
  have o : (fin n ms).aln = _ := (ok_st (mem ms) n).aln
  rw [o]
  exact isSet_of _
theorem fin_wt_set {n : Nat} (ms : List Int) : IsSet n (fin n ms).wt := by
  have o : (fin n ms).wt = _ := (ok_st (mem ms) n).wt
  rw [o]
  exact isSet_of _
end SC
namespace SC
/-! ### texts as lists of signs -/
def sgn (b : Bool) : Nat := if b then 41 else 40
/-- the signs of a set -/
def signs (n : Nat) (ms : List Int) : List Nat := (irange n).map fun x => sgn (mem ms x)
theorem signs_len (n : Nat) (ms : List Int) : (signs n ms).length = n := by unfold signs; rw [List.length_map, irange_len]
theorem signs_succ (n : Nat) (ms : List Int) : signs (n + 1) ms = signs n ms ++ [sgn (mem ms n)] := by
  unfold signs
  rw [irange_succ, List.map_append]
  rfl
/-- the places of the closing signs -/
def closers (L : List Nat) : List Int := (irange L.length).filter fun x => L.getD x.toNat 0 == 41
theorem closers_snoc (L : List Nat) (c : Nat) : closers (L ++ [c]) = if c = 41 then closers L ++ [(L.length : Int)] else closers L := by
  unfold closers
  rw [List.length_append, List.length_singleton, irange_succ, List.filter_append]
  have e1 : (irange L.length).filter (fun x => (L ++ [c]).getD x.toNat 0 == 41) = (irange L.length).filter fun x => L.getD x.toNat 0 == 41 := List.filter_congr fun x hx => by
    have := mem_irange.mp hx
    rw [List.getD_eq_getElem?_getD, List.getD_eq_getElem?_getD, List.getElem?_append_left (by omega)]
  have e2 : (L ++ [c]).getD ((L.length : Int)).toNat 0 = c := by
    rw [List.getD_eq_getElem?_getD, show ((L.length : Int)).toNat = L.length from rfl, List.getElem?_append_right (Nat.le_refl _), Nat.sub_self]
    rfl
  rw [e1, List.filter_cons, e2]
  by_cases h : c = 41
  · rw [if_pos h, if_pos (by rw [h]; rfl)]
    rfl
  · rw [if_neg h, if_neg (by simpa using h), List.filter_nil, List.append_nil]
theorem closers_set (L : List Nat) : IsSet L.length (closers L) := isSet_of _
theorem closers_signs {n : Nat} {ms : List Int} (h : IsSet n ms) : closers (signs n ms) = ms := by
  refine up_ext (closers_set _).up h.up fun x => ?_
  unfold closers
  rw [List.mem_filter, mem_irange, signs_len]
  have g : 0 ≤ x ∧ x < n → (signs n ms).getD x.toNat 0 = sgn (mem ms x) := fun hx => by
    unfold signs
    rw [List.getD_eq_getElem?_getD, List.getElem?_map, irange_get (by omega), show ((x.toNat : Nat) : Int) = x by omega]
    rfl
  constructor
  · rintro ⟨h1, h2⟩
    rw [g h1] at h2
    cases e : mem ms x with
    | true => exact mem_true.mp e
    | false =>
      rw [e] at h2
      exact absurd h2 (by decide)
  · intro hx
    have h1 : 0 ≤ x ∧ x < n := ⟨h.lo x hx, h.hi x hx⟩
    refine ⟨h1, ?_⟩
    rw [g h1, mem_true.mpr hx]
    rfl
/-- what is read -/
def okT (L : List Nat) : Prop := L.length ≤ 40 ∧ ∀ c ∈ L, c = 40 ∨ c = 41
theorem okT_signs {n : Nat} (h : n ≤ 40) (ms : List Int) : okT (signs n ms) := by
  refine ⟨by rw [signs_len]; exact h, fun c hc => ?_⟩
  obtain ⟨x, _, rfl⟩ := List.mem_map.mp hc
  cases mem ms x with
  | true => exact .inr rfl
  | false => exact .inl rfl
end SC
namespace SC
open PySem PySem.Spec PyProof.Rows L2
/-! ### what stands behind the top -/
def At (K : PySem.W.Frag) (mg : Str → Option Value) (x : Str) (st : Stmt) : Prop := ∃ (f : Addr) (fd : FuncData), Fun K x x st f fd ∧ mg x = some (.ref f)
structure Def (P : Program) (w : World) (K : PySem.W.Frag) (mg : Str → Option Value) (base : Heap) (CX : CXT) (k : Nat) (x : Str) (ps : List Str) (sp : Sp) : Prop where
  ex : ∃ (f : Addr) (fd : FuncData), FnOk P w K mg base CX k f fd ps sp ∧ mg x = some (.ref f) ∧ PySem.W.keepIn K (.ref f) = true ∧ Binds K fd ps []
/-- an exception class of the program's own -/
structure XT (K : PySem.W.Frag) (mg : Str → Option Value) (n : Str) (C : Addr) : Prop where
  g : mg n = some (.ref C)
  x : PySem.W.excIn K C [.type "ValueError", .type "Exception", .type "BaseException", .type "object"] "ValueError.__new__" = true
  k : PySem.W.keepIn K (.ref C) = true
  b : PySem.W.subIn K (.ref C) (.type "BaseException") = some true
  t : PySem.W.typeIn K (.ref C) = some (.type "type")
/-- the built-in names, the module's constant -/
structure Bt (mg : Str → Option Value) (tM : Tok) : Prop where
  len : mg "len" = none
  range : mg "range" = none
  sorted : mg "sorted" = none
  isinstance : mg "isinstance" = none
  int : mg "int" = none
  bool : mg "bool" = none
  list : mg "list" = none
  tuple : mg "tuple" = none
  str : mg "str" = none
  sum : mg "sum" = none
  all : mg "all" = none
  min : mg "min" = none
  max : mg "max" = none
  ValueError : mg "ValueError" = none
  MOST : mg "MOST" = some (.int 40 tM)
theorem sz_le {n : Nat} (h : n ≤ 100000) : n ≤ sizeLine := Nat.le_trans h (by decide)
theorem sz_lt {n : Nat} (h : n < 100000) : n < sizeLine := Nat.lt_of_lt_of_le h (by decide)
theorem inD_u {A : Around} {k : Nat} (r : Room k A) : A.units + 65 < cLine := by have := r.un; omega
/-- new: nothing that was tracked is changed -/
theorem same_new {H : Hp} {p : Addr} {o : HO} (h : H p = none) : Same H (upd H p o) := fun b x e => by
  rw [upd_ne (ne_of_none e h)]
  exact e
/-- what was not tracked ahead may change -/
theorem same_mut {H H' : Hp} {p : Addr} {o : HO} (s : Same H H') (h : H p = none) : Same H (upd H' p o) := fun b x e => by
  rw [upd_ne (ne_of_none e h)]
  exact s b x e
theorem tyes {σ : L2.St} {H : Hp} {Q : Bool → Hp → Prop} (h : Q true H) : tYes σ H Q := h
theorem at_int {l : List Int} {i : Nat} {v : Int} (h : l[i]? = some v) : (l.map V.int)[i]? = some (.int v) := by
  rw [List.getElem?_map, h]
  rfl
theorem at_map {l : List Int} {i : Nat} {y : V} (h : (l.map V.int)[i]? = some y) : ∃ v, l[i]? = some v ∧ y = .int v := by
  rw [List.getElem?_map] at h
  cases e : l[i]? with
  | none => rw [e] at h; cases h
  | some v =>
    rw [e] at h
    exact ⟨v, rfl, (Option.some.inj h).symm⟩
theorem atI_int {l : List Int} {z : Int} {i : Nat} {v : Int} (e : z = (i : Int)) (h : l[i]? = some v) : atI (l.map V.int) z = some (.int v) := by
  rw [e]
  exact atI_nat (at_int h)
theorem take_snoc {α : Type} {l : List α} {i : Nat} {x : α} (h : l[i]? = some x) : l.take (i + 1) = l.take i ++ [x] := by
  rw [List.take_add_one, h]
  rfl
/-! ### dicts used as sets of ints -/
def KD (H : Hp) (d : Addr) (l : List Int) : Prop := ∃ kvs : List (Key × V), H d = some (.dK kvs) ∧ kvs.length ≤ l.length ∧ ∀ x : Int, (valV kvs (Sum.inl x)).isSome = l.contains x
theorem KD.nil {H : Hp} {d : Addr} (h : H d = some (.dK [])) : KD H d [] := ⟨[], h, Nat.le_refl _, fun _ => rfl⟩
theorem KD.get {H : Hp} {d : Addr} {l : List Int} (h : KD H d l) (x : Int) : ∃ o, DGet H d (.int x) o ∧ o.isSome = l.contains x := by
  obtain ⟨kvs, h1, _, h3⟩ := h
  exact ⟨_, DGet.k (k := Sum.inl x) h1, h3 x⟩
theorem KD.put {H : Hp} {d : Addr} {l : List Int} (h : KD H d l) (hl : l.length ≤ 1000) (x : Int) (v : V) : ∃ o, DPut H d (.int x) v (upd H d o) ∧ ∀ H' : Hp, H' d = some o → KD H' d (l ++ [x]) := by
  obtain ⟨kvs, h1, h2, h3⟩ := h
  refine ⟨_, DPut.k (k := Sum.inl x) h1 (sz_lt (by omega)), fun H' e => ⟨_, e, ?_, fun y => ?_⟩⟩
  · have := length_putK kvs (Sum.inl x) v
    rw [List.length_append, List.length_singleton]
    omega
  · rw [valV_put, List.contains_append]
    by_cases e : y = x
    · subst e
      rw [if_pos rfl]
      simp
    · rw [if_neg (fun z => e (Sum.inl.inj z)), h3]
      simp [e]
theorem KD.same {H H' : Hp} {d : Addr} {l : List Int} (h : KD H d l) (s : Same H H') : KD H' d l := by
  obtain ⟨kvs, h1, h2⟩ := h
  exact ⟨kvs, s _ _ h1, h2⟩
theorem KD.at {H H' : Hp} {d : Addr} {l : List Int} (h : KD H d l) (e : H' d = H d) : KD H' d l := by
  obtain ⟨kvs, h1, h2⟩ := h
  exact ⟨kvs, e.trans h1, h2⟩
theorem KD.ne {H : Hp} {d : Addr} {l : List Int} (h : KD H d l) {p : Addr} (n : H p = none) : d ≠ p := by
  obtain ⟨kvs, h1, _⟩ := h
  exact ne_of_none h1 n
/-! ### x in a list of ints -/
theorem flat_ints : ∀ ns : List Int, (ns.map V.int).all flatV = true
  | [] => rfl
  | n :: r => by rw [List.map_cons, List.all_cons, flat_ints r]; rfl
theorem inV_ints (x : Int) : ∀ ns : List Int, inV (.int x) (ns.map V.int) = ns.contains x
  | [] => rfl
  | n :: r => by
    have ih := inV_ints x r
    unfold inV at *
    rw [List.map_cons, List.any_cons, ih, List.contains_cons]
    congr 1
    show (n == x) = (x == n)
    by_cases h : x = n
    · subst h
      rfl
    · rw [beq_eq_false_iff_ne.mpr h, beq_eq_false_iff_ne.mpr (fun z => h z.symm)]
/-! ### lists of pairs -/
/-- the tuples at ts hold the pairs ps -/
def Tups (H : Hp) (ts : List Addr) (ps : List (Int × Int)) : Prop := Paired (fun t q => H t = some (.tup [.int q.1, .int q.2])) ts ps
theorem Tups.same {H H' : Hp} {ts : List Addr} {ps : List (Int × Int)} (h : Tups H ts ps) (s : Same H H') : Tups H' ts ps := Paired.mapP h fun _ _ e => s _ _ e
theorem Tups.snoc {H : Hp} {ts : List Addr} {ps : List (Int × Int)} {t : Addr} {q : Int × Int} (h : Tups H ts ps) (e : H t = some (.tup [.int q.1, .int q.2])) : Tups H (ts ++ [t]) (ps ++ [q]) := Paired.snoc h e
/-- what is no tuple may change -/
theorem Tups.upd {H : Hp} {ts : List Addr} {ps : List (Int × Int)} {p : Addr} {xs : List V} {o : HO} (h : Tups H ts ps) (e : H p = some (.lst xs)) : Tups (upd H p o) ts ps :=
  Paired.mapP h fun _ _ q => by rw [upd_ne (ne_of q e (by intro z; cases z))]; exact q
theorem Tups.len {H : Hp} {ts : List Addr} {ps : List (Int × Int)} (h : Tups H ts ps) : ts.length = ps.length := Paired.length h
theorem Tups.get {H : Hp} {ts : List Addr} {ps : List (Int × Int)} (h : Tups H ts ps) {i : Nat} {q : Int × Int} (e : ps[i]? = some q) : ∃ t, ts[i]? = some t ∧ H t = some (.tup [.int q.1, .int q.2]) := by
  have hl := h.len
  have hi : i < ts.length := by
    have := (List.getElem?_eq_some_iff.mp e).1
    omega
  refine ⟨ts[i], List.getElem?_eq_getElem hi, ?_⟩
  obtain ⟨q', e', hq⟩ := paired_get h (List.getElem?_eq_getElem hi)
  rw [e] at e'
  cases e'
  exact hq
/-- which pair lies at a tuple -/
def pairAt (H : Hp) : V → Int × Int
  | .ref t => match H t with
    | some (.tup [.int i, .int j]) => (i, j)
    | _ => (0, 0)
  | _ => (0, 0)
theorem pairAt_of {H : Hp} {t : Addr} {q : Int × Int} (e : H t = some (.tup [.int q.1, .int q.2])) : pairAt H (.ref t) = q := by
  unfold pairAt
  simp only [e]
theorem Tups.map {H : Hp} : ∀ {ts : List Addr} {ps : List (Int × Int)}, Tups H ts ps → (ts.map V.ref).map (pairAt H) = ps
  | _, _, .nil => rfl
  | _, _, .cons h t => by
    rw [List.map_cons, List.map_cons, pairAt_of h, Tups.map t]
theorem Tups.all {H : Hp} : ∀ {ts : List Addr} {ps : List (Int × Int)}, Tups H ts ps → ∀ x ∈ ts.map V.ref, ∃ t, x = V.ref t ∧ H t = some (.tup [.int (pairAt H x).1, .int (pairAt H x).2])
  | _, _, .nil, _, h => nomatch h
  | _, _, .cons h t, x, hx => by
    rw [List.map_cons] at hx
    rcases List.mem_cons.mp hx with e | e
    · subst e
      refine ⟨_, rfl, ?_⟩
      rw [pairAt_of h]
      exact h
    · exact Tups.all t x e
theorem tups_of {H : Hp} : ∀ (xs : List V), (∀ x ∈ xs, ∃ t, x = V.ref t ∧ H t = some (.tup [.int (pairAt H x).1, .int (pairAt H x).2])) → ∃ ts, xs = ts.map V.ref ∧ Tups H ts (xs.map (pairAt H))
  | [], _ => ⟨[], rfl, .nil⟩
  | x :: r, h => by
    obtain ⟨t, e, q⟩ := h x (List.mem_cons_self ..)
    obtain ⟨ts, e2, q2⟩ := tups_of r fun y hy => h y (List.mem_cons_of_mem _ hy)
    subst e
    exact ⟨t :: ts, by rw [e2]; rfl, .cons q q2⟩
/-- sorted of a list of pairs -/
def rSortedQ (K : PySem.W.Frag) : List V → Hp → VK → Prop := fun vs H Q => ∃ (a : Addr) (ts : List Addr) (ps : List (Int × Int)), vs = [V.ref a] ∧ SqL K H a (ts.map V.ref) ∧ Tups H ts ps ∧
  ∀ (p : Addr) (ts' : List Addr), H p = none → Tups H ts' (psort ps) → Q (.ref p) (upd H p (.lst (ts'.map V.ref)))
theorem cr_sortedQ {X : Cx} : CallR X (.builtin "sorted") (rSortedQ X.K) := by
  intro pins s σ H vs us Q I r h
  obtain ⟨a, ts, ps, rfl, hs, ht, q⟩ := h
  refine cr_sortedPO pins s σ H _ us Q I r ⟨a, ts.map V.ref, pairAt H, rfl, hs, ht.all, fun ys p srt stb np => ?_⟩
  have hp := stb.perm
  obtain ⟨ts', e, t'⟩ := tups_of (H := H) ys fun x hx => ht.all x (hp.mem_iff.mp hx)
  have es : ys.map (pairAt H) = psort ps := by
    refine psort_uniq ?_ ?_
    · refine List.pairwise_map.mpr (srt.imp fun {x y} h => ?_)
      have := SrtO.lexB_no.mp h
      unfold leP
      simp only [decide_eq_true_eq]
      omega
    · have := hp.map (pairAt H)
      rw [ht.map] at this
      exact this
  rw [es] at t'
  subst e
  exact q p ts' np t'
/-- sorted of a list of ints -/
def rSortedJ (K : PySem.W.Frag) : List V → Hp → VK → Prop := fun vs H Q => ∃ (a : Addr) (ns : List Int), vs = [V.ref a] ∧ SqL K H a (ns.map V.int) ∧ ∀ p, H p = none → Q (.ref p) (upd H p (.lst ((isort ns).map V.int)))
theorem cr_sortedJ {X : Cx} : CallR X (.builtin "sorted") (rSortedJ X.K) := by
  intro pins s σ H vs us Q I r h
  obtain ⟨a, ns, rfl, hs, q⟩ := h
  refine cr_sortedI pins s σ H _ us Q I r ⟨a, ns, rfl, hs, fun ns' p hp srt np => ?_⟩
  rw [isort_uniq srt hp]
  exact q p np
/-! ### data: lists of ints, pairs, lists of lists -/
def dI (ns : List Int) : PyData := .list (ns.map PyData.int)
def dT (q : Int × Int) : PyData := .tuple [.int q.1, .int q.2]
def dL (rows : List (List Int)) : PyData := .list (rows.map dI)
theorem ints_lay : ∀ ns : List Int, PyData.canLayAll0 (ns.map PyData.int) = true
  | [] => rfl
  | n :: r => by simp [PyData.canLayAll0, PyData.canLay0, ints_lay r]
theorem ints_depth : ∀ ns : List Int, PyData.depthAll (ns.map PyData.int) = 0
  | [] => rfl
  | n :: r => by simp [PyData.depthAll, PyData.depth, ints_depth r]
theorem dI_lay (ns : List Int) : PyData.canLay0 (dI ns) = true := by
  unfold dI
  simp only [PyData.canLay0]
  exact ints_lay ns
theorem dI_depth (ns : List Int) : PyData.depth (dI ns) ≤ 1 := by
  unfold dI
  simp only [PyData.depth]
  rw [ints_depth]
  omega
theorem dI_shaped (ns : List Int) : SeqAt.shaped (dI ns) = true := by
  unfold SeqAt.shaped
  rw [Bool.and_eq_true]
  exact ⟨dI_lay ns, decide_eq_true (Nat.le_trans (dI_depth ns) (by decide))⟩
theorem dT_shaped (q : Int × Int) : SeqAt.shaped (dT q) = true := by
  unfold SeqAt.shaped dT
  rw [Bool.and_eq_true]
  exact ⟨by simp [PyData.canLay0, PyData.canLayAll0], decide_eq_true (by simp [PyData.depth, PyData.depthAll])⟩
theorem dLs_lay : ∀ rs : List (List Int), PyData.canLayAll0 (rs.map dI) = true
  | [] => rfl
  | n :: r => by simp [PyData.canLayAll0, dI_lay n, dLs_lay r]
theorem dLs_depth : ∀ rs : List (List Int), PyData.depthAll (rs.map dI) ≤ 1
  | [] => by simp [PyData.depthAll]
  | n :: r => by
    have h1 := dI_depth n
    have h2 := dLs_depth r
    simp only [List.map_cons, PyData.depthAll]
    omega
theorem dL_shaped (rs : List (List Int)) : SeqAt.shaped (dL rs) = true := by
  unfold SeqAt.shaped dL
  rw [Bool.and_eq_true]
  refine ⟨by simp only [PyData.canLay0]; exact dLs_lay rs, decide_eq_true ?_⟩
  have h := dLs_depth rs
  simp only [PyData.depth]
  omega
theorem ints_eqv : ∀ a b : List Int, PyData.eqvAll (a.map PyData.int) (b.map PyData.int) = decide (a = b)
  | [], [] => by simp [PyData.eqvAll]
  | [], y :: b => by simp [PyData.eqvAll]
  | x :: a, [] => by simp [PyData.eqvAll]
  | x :: a, y :: b => by
    simp only [List.map_cons, PyData.eqvAll, PyData.eqv, ints_eqv a b]
    by_cases h : x = y
    · subst h
      simp
    · simp [h]
theorem dI_eqv (a b : List Int) : PyData.eqv (dI a) (dI b) = decide (a = b) := by
  unfold dI
  simp only [PyData.eqv]
  exact ints_eqv a b
theorem dT_eqv (p q : Int × Int) : PyData.eqv (dT p) (dT q) = decide (p = q) := by
  obtain ⟨a, b⟩ := p
  obtain ⟨c, d⟩ := q
  unfold dT
  simp only [PyData.eqv, PyData.eqvAll]
  by_cases h1 : a = c
  · by_cases h2 : b = d
    · subst h1 h2
      simp
    · simp [h1, h2]
  · simp [h1]
theorem dLs_eqv : ∀ a b : List (List Int), PyData.eqvAll (a.map dI) (b.map dI) = decide (a = b)
  | [], [] => by simp [PyData.eqvAll]
  | [], y :: b => by simp [PyData.eqvAll]
  | x :: a, [] => by simp [PyData.eqvAll]
  | x :: a, y :: b => by
    simp only [List.map_cons, PyData.eqvAll, dI_eqv, dLs_eqv a b]
    by_cases h : x = y
    · subst h
      simp
    · simp [h]
theorem dL_eqv (a b : List (List Int)) : PyData.eqv (dL a) (dL b) = decide (a = b) := by
  unfold dL
  simp only [PyData.eqv]
  exact dLs_eqv a b
def dP (ps : List (Int × Int)) : PyData := .list (ps.map dT)
theorem dTs_lay : ∀ ps : List (Int × Int), PyData.canLayAll0 (ps.map dT) = true
  | [] => rfl
  | n :: r => by simp [PyData.canLayAll0, PyData.canLay0, dT, dTs_lay r]
theorem dTs_depth : ∀ ps : List (Int × Int), PyData.depthAll (ps.map dT) ≤ 1
  | [] => by simp [PyData.depthAll]
  | n :: r => by
    have h2 := dTs_depth r
    have h1 : PyData.depth (dT n) ≤ 1 := by simp [dT, PyData.depth, PyData.depthAll]
    simp only [List.map_cons, PyData.depthAll]
    omega
theorem dP_shaped (ps : List (Int × Int)) : SeqAt.shaped (dP ps) = true := by
  unfold SeqAt.shaped dP
  rw [Bool.and_eq_true]
  refine ⟨by simp only [PyData.canLay0]; exact dTs_lay ps, decide_eq_true ?_⟩
  have h := dTs_depth ps
  simp only [PyData.depth]
  omega
theorem dTs_eqv : ∀ a b : List (Int × Int), PyData.eqvAll (a.map dT) (b.map dT) = decide (a = b)
  | [], [] => by simp [PyData.eqvAll]
  | [], y :: b => by simp [PyData.eqvAll]
  | x :: a, [] => by simp [PyData.eqvAll]
  | x :: a, y :: b => by
    simp only [List.map_cons, PyData.eqvAll, dT_eqv, dTs_eqv a b]
    by_cases h : x = y
    · subst h
      simp
    · simp [h]
theorem dP_eqv (a b : List (Int × Int)) : PyData.eqv (dP a) (dP b) = decide (a = b) := by
  unfold dP
  simp only [PyData.eqv]
  exact dTs_eqv a b
theorem dp_ints {K : PySem.W.Frag} {H : Hp} : ∀ ns : List Int, DpAll K H (ns.map V.int) (ns.map PyData.int)
  | [] => .nil
  | n :: r => .cons (.int n) (dp_ints r)
theorem dp_I {K : PySem.W.Frag} {H : Hp} {a : Addr} {ns : List Int} (h : SqL K H a (ns.map V.int)) : Dp K H (.ref a) (dI ns) := .lst h (dp_ints ns)
theorem dp_T {K : PySem.W.Frag} {H : Hp} {a : Addr} {q : Int × Int} (h : H a = some (.tup [.int q.1, .int q.2])) : Dp K H (.ref a) (dT q) := .tup (SqT.of h) (.cons (.int _) (.cons (.int _) .nil))
theorem dp_Ts {K : PySem.W.Frag} {H : Hp} : ∀ {ts : List Addr} {ps : List (Int × Int)}, Tups H ts ps → DpAll K H (ts.map V.ref) (ps.map dT)
  | _, _, .nil => .nil
  | _, _, .cons h t => .cons (dp_T h) (dp_Ts t)
theorem dp_P {K : PySem.W.Frag} {H : Hp} {a : Addr} {ts : List Addr} {ps : List (Int × Int)} (h : SqL K H a (ts.map V.ref)) (r : Tups H ts ps) : Dp K H (.ref a) (dP ps) := .lst h (dp_Ts r)
/-- the lists at as hold the rows -/
def Rows (H : Hp) (as : List Addr) (rows : List (List Int)) : Prop := Paired (fun a r => H a = some (.lst (r.map V.int))) as rows
theorem Rows.same {H H' : Hp} {as : List Addr} {rs : List (List Int)} (h : Rows H as rs) (s : Same H H') : Rows H' as rs := Paired.mapP h fun _ _ e => s _ _ e
theorem Rows.len {H : Hp} {as : List Addr} {rs : List (List Int)} (h : Rows H as rs) : as.length = rs.length := Paired.length h
theorem Rows.snoc {H : Hp} {as : List Addr} {rs : List (List Int)} {a : Addr} {r : List Int} (h : Rows H as rs) (e : H a = some (.lst (r.map V.int))) : Rows H (as ++ [a]) (rs ++ [r]) := Paired.snoc h e
theorem Rows.get {H : Hp} {as : List Addr} {rs : List (List Int)} (h : Rows H as rs) {i : Nat} {r : List Int} (e : rs[i]? = some r) : ∃ a, as[i]? = some a ∧ H a = some (.lst (r.map V.int)) := by
  have hl := h.len
  have hi : i < as.length := by
    have := (List.getElem?_eq_some_iff.mp e).1
    omega
  refine ⟨as[i], List.getElem?_eq_getElem hi, ?_⟩
  obtain ⟨q', e', hq⟩ := paired_get h (List.getElem?_eq_getElem hi)
  rw [e] at e'
  cases e'
  exact hq
theorem Rows.at {H : Hp} {as : List Addr} {rs : List (List Int)} (h : Rows H as rs) {i : Nat} {a : Addr} (e : as[i]? = some a) : ∃ r, rs[i]? = some r ∧ H a = some (.lst (r.map V.int)) := paired_get h e
theorem Rows.mem {H : Hp} {as : List Addr} {rs : List (List Int)} (h : Rows H as rs) {a : Addr} (e : a ∈ as) : ∃ r, r ∈ rs ∧ H a = some (.lst (r.map V.int)) := by
  obtain ⟨i, hi, rfl⟩ := List.getElem_of_mem e
  obtain ⟨r, h1, h2⟩ := h.at (List.getElem?_eq_getElem hi)
  exact ⟨r, List.mem_of_getElem? h1, h2⟩
/-- a list that is none of the rows may change -/
theorem Rows.upd {H : Hp} {as : List Addr} {rs : List (List Int)} {p : Addr} {o : HO} (h : Rows H as rs) (e : p ∉ as) : Rows (upd H p o) as rs := by
  unfold Rows at *
  induction h with
  | nil => exact .nil
  | cons q t ih =>
    refine .cons ?_ (ih fun z => e (List.mem_cons_of_mem _ z))
    rw [upd_ne (fun z => e (by rw [← z]; exact List.mem_cons_self ..))]
    exact q
theorem Rows.take {H : Hp} {as : List Addr} {rs : List (List Int)} (h : Rows H as rs) (k : Nat) : Rows H (as.take k) (rs.take k) := by
  unfold Rows at *
  induction h generalizing k with
  | nil => rw [List.take_nil, List.take_nil]; exact .nil
  | cons q t ih =>
    cases k with
    | zero => exact .nil
    | succ k => exact .cons q (ih k)
theorem dp_Ls {K : PySem.W.Frag} {H : Hp} : ∀ {as : List Addr} {rs : List (List Int)}, Rows H as rs → DpAll K H (as.map V.ref) (rs.map dI)
  | _, _, .nil => .nil
  | _, _, .cons h t => .cons (dp_I (SqL.of h)) (dp_Ls t)
theorem dp_L {K : PySem.W.Frag} {H : Hp} {a : Addr} {as : List Addr} {rs : List (List Int)} (h : SqL K H a (as.map V.ref)) (r : Rows H as rs) : Dp K H (.ref a) (dL rs) := .lst h (dp_Ls r)
theorem dL_any (rs : List (List Int)) (r : List Int) : ((rs.map dI).any fun z => PyData.eqv z (dI r)) = decide (r ∈ rs) := by
  induction rs with
  | nil => rfl
  | cons x rs ih =>
    rw [List.map_cons, List.any_cons, ih, dI_eqv]
    by_cases h : x = r
    · subst h
      simp
    · by_cases h2 : r ∈ rs
      · simp [h2]
      · simp [h, h2, Ne.symm h]
theorem cut_take (xs : List V) (k : Nat) : cutV xs none (some (k : Int)) = xs.take k := by
  unfold cutV
  rw [HT.sIx_none, HT.sIx_nat, List.drop_zero, Nat.sub_zero]
  by_cases h : k ≤ xs.length
  · rw [Nat.min_eq_left h]
  · rw [Nat.min_eq_right (by omega), List.take_length, List.take_of_length_le (by omega)]
theorem Tups.take {H : Hp} {ts : List Addr} {ps : List (Int × Int)} (h : Tups H ts ps) (k : Nat) : Tups H (ts.take k) (ps.take k) := by
  unfold Tups at *
  induction h generalizing k with
  | nil => rw [List.take_nil, List.take_nil]; exact .nil
  | cons q t ih =>
    cases k with
    | zero => exact .nil
    | succ k => exact .cons q (ih k)
/-! ### what the program's own looks ask -/
def Guard (CM CS : Addr) (m : Int) (ms : List Int) (E : XK) (H : Hp) (good : Prop) : Prop :=
  ((m < 0 ∨ 40 < m) → E (.ref CM) none H) ∧ (¬ (m < 0 ∨ 40 < m) → setOk m (-1) ms = false → E (.ref CS) none H) ∧ (∀ n : Nat, m = (n : Int) → n ≤ 40 → IsSet n ms → good)
theorem Guard.of {CM CS : Addr} {n : Nat} {ms : List Int} {E : XK} {H : Hp} {good : Prop} (hn : n ≤ 40) (h : IsSet n ms) (g : good) : Guard CM CS n ms E H good :=
  ⟨fun z => absurd z (by omega), fun _ z => by rw [setOk_set.mpr h] at z; (cases z), fun _ _ _ _ => g⟩
theorem Guard.imp {CM CS : Addr} {m : Int} {ms : List Int} {E : XK} {H : Hp} {good good' : Prop} (h : Guard CM CS m ms E H good) (g : ∀ n : Nat, m = (n : Int) → n ≤ 40 → IsSet n ms → good → good') : Guard CM CS m ms E H good' :=
  ⟨h.1, h.2.1, fun n e h1 h2 => g n e h1 h2 (h.2.2 n e h1 h2)⟩
/-! ### rules whose reading names the written part (for a comprehension's block) -/
/-! ### texts -/
def txt (L : List Nat) : Str := ⟨L.toArray⟩
theorem txt_len (L : List Nat) : (txt L).length = L.length := rfl
theorem txt_app (L M : List Nat) : txt L ++ txt M = txt (L ++ M) := TL.ext_tl (by rw [TL.tl_append]; rfl)
theorem txt_inj {L M : List Nat} (h : txt L = txt M) : L = M := by
  have := congrArg TL.tl h
  exact this
theorem txt_open : (Str.ofString "(") = txt [40] := by decide +kernel
theorem txt_close : (Str.ofString ")") = txt [41] := by decide +kernel
theorem joinL_ones : ∀ L : List Nat, TL.joinL [] (L.map fun c => [c]) = L
  | [] => rfl
  | [c] => rfl
  | c :: d :: r => by
    show [c] ++ ([] ++ TL.joinL [] ((d :: r).map fun c => [c])) = _
    rw [joinL_ones (d :: r)]
    rfl
theorem txt_join (L : List Nat) : Txt.join (Str.ofString "") (L.map fun c => txt [c]) = txt L := by
  refine TL.ext_tl ?_
  have e0 : TL.tl (Str.ofString "") = [] := by decide +kernel
  rw [TL.join_eq, TL.tl_join, e0, List.map_map]
  exact joinL_ones L
theorem ones_sum : ∀ L : List Nat, ((L.map fun c => txt [c]).map (·.length)).sum = L.length
  | [] => rfl
  | c :: L => by
    rw [List.map_cons, List.map_cons, List.sum_cons, ones_sum L, List.length_cons]
    show 1 + _ = _
    omega
/-! ### a caught exception handed on to a def -/
/-- an exception class, as a name and in an except clause -/
structure XC (K : PySem.W.Frag) (mg : Str → Option Value) (n : Str) (C : Addr) : Prop where
  g : mg n = some (.ref C)
  d : PySem.W.hasDictIn K C = true
  t : PySem.W.typeIn K (.ref C) = some (.type "type")
  b : PySem.W.subIn K (.ref C) (.type "BaseException") = some true
/-- a class that is raised, beside the four that are asked for -/
structure XK (K : PySem.W.Frag) (D CE C1 C2 C3 C4 : Addr) (b1 b2 b3 b4 : Bool) : Prop where
  e : ExcC K D
  v : PySem.W.subIn K (.ref D) (.type "ValueError") = some true
  self : PySem.W.subIn K (.ref D) (.ref D) = some true
  up : PySem.W.subIn K (.ref D) (.ref CE) = some true
  s1 : PySem.W.subIn K (.ref D) (.ref C1) = some b1
  s2 : PySem.W.subIn K (.ref D) (.ref C2) = some b2
  s3 : PySem.W.subIn K (.ref D) (.ref C3) = some b3
  s4 : PySem.W.subIn K (.ref D) (.ref C4) = some b4
theorem kit_own {K : PySem.W.Frag} {D C : Addr} {b : Bool} (self : PySem.W.subIn K (.ref D) (.ref D) = some true) (hd : PySem.W.hasDictIn K C = true) (ht : PySem.W.typeIn K (.ref C) = some (.type "type")) (hs : PySem.W.subIn K (.ref D) (.ref C) = some b) :
    PySem.W.kitOne K (.ref D) (.ref C) = some b := by
  unfold PySem.W.kitOne
  by_cases h : D = C
  · subst h
    rw [self] at hs
    rw [if_pos (beq_self_eq_true _)]
    exact hs
  · rw [if_neg (fun z => h (Value.ref.inj (beq_iff_eq.mp z)))]
    obtain ⟨cd, hc, _⟩ := PySem.W.any_some hd
    show (if ((PySem.W.clsIn K C).isSome && PySem.W.typeIn K (.ref C) == some (.type "type")) = true then _ else none) = some b
    rw [if_pos (by rw [hc, ht]; rfl)]
    exact hs
theorem kit_val {K : PySem.W.Frag} {D : Addr} (h : PySem.W.subIn K (.ref D) (.type "ValueError") = some true) : PySem.W.kitOne K (.ref D) (.type "ValueError") = some true := by
  unfold PySem.W.kitOne
  rw [if_neg (by intro z; cases beq_iff_eq.mp z)]
  show (if PySem.W.kitMeta "ValueError" = true then _ else none) = some true
  rw [if_pos (by decide +kernel)]
  exact h
/-- what a def promises that is handed the exception at a, of class c -/
abbrev SpE := Addr → Value → Option Addr → Sp
structure FnP (P : Program) (w : World) (K : PySem.W.Frag) (mg : Str → Option Value) (base : Heap) (k : Nat) (f : Addr) (fd : FuncData) (ps : List Str) (sp : SpE) : Prop where
  len : ∀ a c d vs H Q E, sp a c d vs H Q E → vs.length = ps.length
  go : ∀ (A : Around) (up : List Env) (s : Shared) (H : Hp) (as : Args) (us : List Value) (vs : List V) (Q : VK) (p : Addr × Obj) (c : Value) (d : Option Addr), L2H.RoomH k A → Zc c d p.2 → (∃ g, p.2.data = .fields g) → L2H.PinOk up H s p →
    Env0 P w K mg base A up s H → BindsTo s fd as (ps.zip us) → Vals vs us → sp p.1 c d vs H Q E0 → codeAny (model P w) A (.call (.ref f) as) (CR CX0 up P w H s Q E0) s
structure DefP (P : Program) (w : World) (K : PySem.W.Frag) (mg : Str → Option Value) (base : Heap) (k : Nat) (x : Str) (ps : List Str) (sp : SpE) : Prop where
  ex : ∃ (f : Addr) (fd : FuncData), FnP P w K mg base k f fd ps sp ∧ mg x = some (.ref f) ∧ PySem.W.keepIn K (.ref f) = true ∧ Binds K fd ps []
theorem fnP {P : Program} {w : World} {K : PySem.W.Frag} {mg : Str → Option Value} {base : Heap} {x qual : Str} {st : Stmt} {f : Addr} {fd : FuncData} {N ps : List Str} {k : Nat} {sp : SpE} (F : Fun K x qual st f fd) (S : FnScope N ps (defScope st))
    (len : ∀ a c d vs H Q E, sp a c d vs H Q E → vs.length = ps.length)
    (walk : ∀ (cdv : Value) (A : Around) (up : List Env) (s : Shared) (H : Hp) (vs : List V) (Q : VK) (p : Addr × Obj) (c : Value) (d : Option Addr), L2H.RoomH k (A.deeper (envOfC qual (defScope st) s.heap.objs.size f cdv)) → Zc c d p.2 → (∃ g, p.2.data = .fields g) → sp p.1 c d vs H Q E0 →
      ∃ t, PSs (L2H.cxH CX0 P w K mg base N qual (defScope st) f cdv A up s H E0 p) (defBody st) t ∧ t { nx := fun _ H' => Q .non H', rt := Q } (L2.start N vs) H) : FnP P w K mg base (k + 1) f fd ps sp := by
  obtain ⟨c0, d0, kv, dc, pm, an, cdv, ct, sl0, rfl, lk, cd⟩ := F.ex
  refine ⟨len, fun A up s H as us vs Q p c d room zc fl pin e0 bnd rv asked => ?_⟩
  have same := len _ _ _ _ _ _ _ asked
  have here : K.In s.heap := e0.mod.kin.keeps fun b o e => (e0.bs b o e).1
  have open0 : s.heap.NoLimit := e0.mod.nolimit.keeps fun b o e => (e0.bs b o e).1
  have slot : ∀ y ∈ ps.zip us, (defScope st).names.lookup y.1 = some .local ∨
      ((defScope st).names.lookup y.1 = some .cell ∧ ((cellsFrom (s.heap.objs.size + 1) (defScope st).names []).lookup y.1).isSome = true) := by
    rintro ⟨n, u⟩ hy
    rcases S.par n (List.of_mem_zip hy).1 with z | z
    · exact .inl z
    · exact .inr ⟨z, PySem.W.cellsFrom_some _ _ _ (.inl z)⟩
  refine codeAny_call_function room.depth (here _ _ lk) rfl S.co S.gen rfl (PySem.W.codeRec_of here cd) (bnd _ _ _ _ ?_)
  refine wpAny_newFunctionEnv_cells S.kind slot fun env ee s1 xs => ?_
  subst ee
  refine ⟨open0.keeps xs.toInCall.keep, codeAny_func ?_⟩
  obtain ⟨t, ht, hq⟩ := walk cdv A up s H vs Q p c d (room.deeper _) zc fl asked
  have I := L2H.inv_startH (CX := CX0) (E := E0) S pin e0 same rv xs
  refine wpAny_mono (ht.run [] s1 (L2.start N vs) H _ I hq) (fun fw s' ends => ?_) fun _ _ z => z
  cases fw with
  | ret u =>
    obtain ⟨v, σ', H', J, r, q⟩ := ends
    exact ⟨v, H', J.os, J.bare, J.base, J.hok, r, q⟩
  | next =>
    obtain ⟨σ', H', J, q⟩ := ends
    exact ⟨V.non, H', J.os, J.bare, J.base, J.hok, rfl, q⟩
  | brk =>
    obtain ⟨_, _, _, z⟩ := ends
    exact z.elim
  | cont =>
    obtain ⟨_, _, _, z⟩ := ends
    exact z.elim
/-- a call of such a def within an except suite -/
def tCallP (sp : SpE) (a : Addr) (c : Value) (d : Option Addr) (t : TA) : TE := fun σ H Q => t σ H fun vs H1 => sp a c d vs H1 Q E0
theorem pe_callP {X : Cx} {k : Nat} {f : Addr} {fd : FuncData} {ps : List Str} {sp : SpE} {x : Str} {q pos : Pos} {e : Expr} {es : List Expr} {t : TA} {a : Addr} {oe : Obj} {c : Value} {d : Option Addr}
    (F : FnP X.prog X.w X.K X.mg X.base k f fd ps sp) (room : L2H.RoomH k X.A) (hp : (a, oe) ∈ X.pn) (zc : Zc c d oe) (fl : ∃ g, oe.data = .fields g) (hg : Gl X x) (hm : X.mg x = some (.ref f)) (hk : PySem.W.keepIn X.K (.ref f) = true) (hb : Binds X.K fd ps []) (ha : PA X (e :: es) t)
    (nodb : (x == ("__debug__" : Str)) = false := by decide) (first : starEach (e :: es) X.env = (false, eval e X.env) :: starEach es X.env := by rfl) (plain : (backTo pos (starEach es X.env)).any (·.1) = false := by rfl) :
    PE X (.Call (.Name x q) (e :: es) [] pos) (tCallP sp a c d t) := by
  constructor
  intro pins s σ H Q I asked
  refine wpAny_Call_Name_kw (ld_glob I hg hm ?_ nodb)
  refine PySem.W.callWith_K (h₀ := X.base) I.ok.mod.kin hk (thn (ha.run pos pins s σ H _ I asked) fun us s1 ends => ?_) first plain
  obtain ⟨vs, H1, I1, rv, h⟩ := ends
  refine ⟨I1.kIn, ?_⟩
  have lu : us.length = ps.length := rv.length.symm.trans (F.len _ _ _ _ _ _ _ h)
  have bnd := hb s1 us I1.kIn (by rw [List.append_nil]; exact lu)
  rw [List.append_nil] at bnd
  obtain ⟨p1, p2, p3, p4, p5⟩ := I1.pin (a, oe) (List.mem_append_left _ hp)
  have pin : L2H.PinOk X.stack H1 s1 (a, oe) := by
    refine ⟨p1, p2, fun m => ?_, p5⟩
    rcases List.mem_cons.mp (I1.stkSub a m) with z | z
    · exact p3 z
    · exact p4 z
  refine wpAny_call (codeAny_mono (F.go X.A X.stack s1 H1 ⟨us, []⟩ us vs Q (a, oe) c d room zc fl pin I1.env0 bnd rv h) fun r s' got => ?_)
  cases r with
  | error z => exact False.elim got
  | ok fw =>
    cases fw with
    | ret u => exact I1.after got
    | next => exact False.elim got
    | brk => exact False.elim got
    | cont => exact False.elim got
theorem roomP {j k : Nat} {A : Around} {v : Option Value} (r : Room k A) (h : j ≤ k) : L2H.RoomH j (A.mark v) :=
  ⟨by have := r.dp; show A.depth + 3 * j + 5 < _; omega, by have := r.un; show A.units + 16 * j + 200 < _; omega⟩
theorem uH {k : Nat} {A : Around} (r : L2H.RoomH k A) : A.units + 65 < cLine := by have := r.un; omega
/-- isinstance(e, c) of the exception that was handed on -/
theorem call_isP {X : Cx} {p : Addr × Obj} {D : Addr} (C : ExcC X.K D) (hp : p ∈ X.pn) (zc : Zc (.ref D) none p.2) (fl : ∃ g, p.2.data = .fields g) : CallR X (.builtin "isinstance") (rIsE X.K D p.1) := by
  intro pins s σ H xs us Q I r asked
  obtain ⟨c, cv, b, rfl, known, kit, q⟩ := asked
  obtain ⟨u1, u2, rfl, r1, r2⟩ := vals2 r
  cases (show u1 = Value.ref p.1 from r1)
  have e2 := known u2 r2
  subst e2
  have got := (I.pin p (List.mem_append_left _ hp)).1
  obtain ⟨g, hg⟩ := fl
  obtain ⟨a, cl, di, da, sl⟩ := p
  obtain ⟨z1, z2⟩ := zc
  dsimp only at z1 z2 hg got
  subst z1 z2 hg
  have J : PySem.W.InstAt s.heap a ⟨.ref D, none, .fields g, sl⟩ D none := ⟨got, rfl, rfl, trivial⟩
  exact PySem.W.kia_one (PySem.W.handS_kitx_exc C.hg C.hk C.hs C.hd C.ha C.hn C.ht C.hm) I.kIn J kit (fun z => nomatch z) fun tk => ⟨.bl b, H, I.kept (t' := tk) fun _ _ z => z, rfl, q⟩
theorem own_val {C : Addr} {u : Value} (h : RelV (.ref C) u) : u = .ref C := h
theorem ty_val {n : String} {u : Value} (h : RelV (.ty n) u) : u = .type n := h
/-- l.count(x), items that are data of any depth -/
def rCountD (K : PySem.W.Frag) : V → List V → Hp → VK → Prop := fun x xs H Q => ∃ (a : Addr) (y : V) (d : PyData) (ds : List PyData), x = V.ref a ∧ xs = [y] ∧ Dp K H (V.ref a) (.list ds) ∧ Dp K H y d ∧ SeqAt.shaped (.list ds) = true ∧ SeqAt.shaped d = true ∧ Q (.int (ds.countP fun z => PyData.eqv z d : Nat)) H
theorem mt_countD {X : Cx} (hu : X.A.units + 65 < cLine) : MtR X "list.count" (rCountD X.K) := by
  intro pins s σ H x xs v us Q I rx rxs h
  obtain ⟨a, y, d, ds, rfl, rfl, hl, hy, sl, sd, q⟩ := h
  cases rx
  cases rxs with
  | cons ry rt =>
    rename_i uy ut
    cases rt
    obtain ⟨bs, r1⟩ := Dp.reads I d y uy hy ry
    have lay : PyData.canLayAll0 ds = true := SeqAt.canLay_of_shaped sl
    have room : X.A.units + 1 + min (PyData.depthAll ds) d.depth < cLine := room_in_shaped sd hu
    cases hl with
    | lst hs ha =>
      obtain ⟨its, rv, ⟨⟨cls, dd, data, sls⟩, n, ho, hc, hdn, hdt⟩, hlen⟩ := I.list hs
      dsimp only at hc hdt
      subst hc hdt
      obtain ⟨as, h4⟩ := Dp.readsAll I ds _ its ha rv
      have hmap : its.map (SeqAt.readOf s.heap) = ds := SeqAt.readsAll_map ds its as lay h4
      have all : ReadsAll s.heap its.toArray.toList ds as := h4
      refine call_meets PySem.F.slot_list_count ⟨_, ho, rfl⟩ PySem.F.entry_list_count (PySem.F.args_list_count_2 _ _) (SeqAt.list_countAt a its.toArray n dd sls uy fun u => PyData.eqv (SeqAt.readOf s.heap u) d) ⟨ho, SeqAt.items_eqAt all r1 lay (SeqAt.canLay_of_shaped sd) room, ?_⟩
      refine ⟨.int (ds.countP fun z => PyData.eqv z d : Nat), H, I.tok _, ⟨s.toks, ?_⟩, q⟩
      rw [← hmap, List.countP_map]
      rfl
/-- which of the four it is, in a word -/
def OneHot (b1 b2 b3 b4 : Bool) (z : Str) : Prop := (b1 = true ∧ b2 = false ∧ b3 = false ∧ b4 = false ∧ z = Str.ofString "many") ∨ (b1 = false ∧ b2 = true ∧ b3 = false ∧ b4 = false ∧ z = Str.ofString "set") ∨
  (b1 = false ∧ b2 = false ∧ b3 = true ∧ b4 = false ∧ z = Str.ofString "number") ∨ (b1 = false ∧ b2 = false ∧ b3 = false ∧ b4 = true ∧ z = Str.ofString "note")
def spWord (K : PySem.W.Frag) (CE C1 C2 C3 C4 : Addr) : SpE := fun a c d vs H Q _ => vs = [.ref a] ∧ ∃ (D : Addr) (b1 b2 b3 b4 : Bool) (z : Str), c = .ref D ∧ d = none ∧ XK K D CE C1 C2 C3 C4 b1 b2 b3 b4 ∧ OneHot b1 b2 b3 b4 z ∧ ∀ H', Same H H' → Q (.str z) H'
/-! ### the text -/
def topS (i : Nat) : Stmt := PySem.Challenge.pw_setchains_k19_read.main.body.getD i (.Pass ⟨0, 0, 0, 0⟩)
abbrev s_read : Stmt := topS 8
theorem sc_read : FnScope ["text", "members", "thing"] ["text"] (defScope s_read) := ⟨rfl, rfl, rfl, by decide +kernel, rfl, by decide +kernel, by decide +kernel⟩
abbrev s__law_cell_at : Stmt := topS 10
theorem sc__law_cell_at : FnScope ["script", "k"] ["script", "k"] (defScope s__law_cell_at) := ⟨rfl, rfl, rfl, by decide +kernel, rfl, by decide +kernel, by decide +kernel⟩
abbrev s__law_whole : Stmt := topS 11
theorem sc__law_whole : FnScope ["found"] ["found"] (defScope s__law_whole) := ⟨rfl, rfl, rfl, by decide +kernel, rfl, by decide +kernel, by decide +kernel⟩
abbrev s__law_set_by : Stmt := topS 12
theorem sc__law_set_by : FnScope ["script", "at", "size", "one", "two", "found", "thing"] ["script", "at", "size"] (defScope s__law_set_by) := ⟨rfl, rfl, rfl, by decide +kernel, rfl, by decide +kernel, by decide +kernel⟩
abbrev s__law_is_set : Stmt := topS 13
theorem sc__law_is_set : FnScope ["found", "due", "k"] ["found", "due"] (defScope s__law_is_set) := ⟨rfl, rfl, rfl, by decide +kernel, rfl, by decide +kernel, by decide +kernel⟩
abbrev s__law_word_of : Stmt := topS 14
theorem sc__law_word_of : FnScope ["e", "kinds"] ["e"] (defScope s__law_word_of) := ⟨rfl, rfl, rfl, by decide +kernel, rfl, by decide +kernel, by decide +kernel⟩
abbrev s__law_odd_sign : Stmt := topS 15
theorem sc__law_odd_sign : FnScope ["cell", "some"] ["cell"] (defScope s__law_odd_sign) := ⟨rfl, rfl, rfl, by decide +kernel, rfl, by decide +kernel, by decide +kernel⟩
abbrev s__law_refused : Stmt := topS 16
theorem sc__law_refused : FnScope ["text", "e"] ["text"] (defScope s__law_refused) := ⟨rfl, rfl, rfl, by decide +kernel, rfl, by decide +kernel, by decide +kernel⟩
abbrev s_law : Stmt := topS 17
theorem sc_law : FnScope ["script", "size", "members", "text", "thing", "at", "found"] ["script"] (defScope s_law) := ⟨rfl, rfl, rfl, by decide +kernel, rfl, by decide +kernel, by decide +kernel⟩
section
variable {X : Cx} (K : PySem.W.Frag)
theorem ix_listK (h : X.K = K := by rfl) : IxR X (rIxL K) := h ▸ ix_list
theorem ix_tupK (h : X.K = K := by rfl) : IxR X (rIxT K) := h ▸ ix_tup
theorem sl_listK (h : X.K = K := by rfl) : SlR X (rSlL K) := h ▸ sl_list
theorem pg_tupK {es : List Expr} {k : Nat} {t : TGs} {n : Nat} {pos : Pos} (hc : X.calm = true) (h : PGs X es t)
    (hn : (assignEach es X.env).length = n := by rfl) (hst : (assignEach es X.env).findIdx? (·.1) = none := by rfl) (hK : X.K = K := by rfl) : PG X (.Tuple es k pos) (gTup K n t) := hK ▸ pg_tup hc h hn hst
theorem op_in_seqK (h : X.K = K := by rfl) : OpR X (compareOp .In) (rIn K false) := h ▸ op_in_seq
theorem op_notIn_seqK (h : X.K = K := by rfl) : OpR X (compareOp .NotIn) (rIn K true) := h ▸ op_notIn_seq
theorem op_eqDK (hu : X.A.units + 64 < cLine) (h : X.K = K := by rfl) : OpR X (compareOp .Eq) (rEqD K) := h ▸ op_eqD hu
theorem op_neDK (hu : X.A.units + 64 < cLine) (h : X.K = K := by rfl) : OpR X (compareOp .NotEq) (rNeD K) := h ▸ op_neD hu
theorem op_inDK (hu : X.A.units + 65 < cLine) (h : X.K = K := by rfl) : OpR X (compareOp .In) (rInD K) := h ▸ op_inD hu
theorem op_notInDK (hu : X.A.units + 65 < cLine) (h : X.K = K := by rfl) : OpR X (compareOp .NotIn) (rNotInD K) := h ▸ op_notInD hu
theorem call_len_seqK (h : X.K = K := by rfl) : CallR X (.builtin "len") (fun xs H Q => ∃ p ys, xs = [.ref p] ∧ (SqL K H p ys ∨ SqT K H p ys) ∧ Q (.int ys.length) H) := h ▸ call_len_seq
theorem call_list_ofK (h : X.K = K := by rfl) : CallR X (.type "list") (fun xs H Q => ∃ p ys, xs = [.ref p] ∧ (SqL K H p ys ∨ SqT K H p ys) ∧ ∀ l, H l = none → Q (.ref l) (upd H l (.lst ys))) := h ▸ call_list_of
end
section
variable {P : Program} {w : World} {K : PySem.W.Frag} {mg : Str → Option Value} {base : Heap} {tM : Tok}
/-! #### read -/
structure ReadAt (H H' : Hp) (L : List Nat) (p l : Addr) : Prop where
  same : Same H H'
  np : H p = none
  nl : H l = none
  tup : H' p = some (.tup [.int (L.length : Int), .ref l])
  lst : H' l = some (.lst ((closers L).map V.int))
def spRead (CN : Addr) : Sp := fun vs H Q E => ∃ L : List Nat, vs = [.str (txt L)] ∧ L.length ≤ 1000 ∧ (¬ okT L → ∀ H', Same H H' → E (.ref CN) none H') ∧ (okT L → ∀ H' p l, ReadAt H H' L p l → Q (.ref p) H')
theorem one_eq (c d : Nat) : decide (V.str (⟨#[c]⟩ : Str) = V.str (txt [d])) = decide (c = d) := by
  by_cases h : c = d
  · rw [h, decide_eq_true rfl]
    exact decide_eq_true rfl
  · rw [decide_eq_false h]
    refine decide_eq_false fun z => h ?_
    have := txt_inj (L := [c]) (M := [d]) (V.str.inj z)
    exact (List.cons.inj this).1
theorem ok_read {C_NoNote : Addr} (A : At K mg "read" s_read) (B : Bt mg tM) (X_NoNote : XT K mg "NoNote" C_NoNote) :
    Def P w K mg base (L2.CX P w) 1 "read" ["text"] (spRead C_NoNote) := by
  obtain ⟨f, fd, F, gm⟩ := A
  refine ⟨⟨f, fd, F.okX sc_read (fun vs H Q E h => ?_) (fun cdv A outer s H vs Q E hr h => ?_), gm, F.kp, F.binds fun _ _ _ _ _ _ us hl => match us, hl with | [_], _ => rfl⟩⟩
  · obtain ⟨L, rfl, _⟩ := h
    rfl
  · obtain ⟨L, rfl, hL, kE, kQ⟩ := h
    have tk := takes_of (X := cxOf (L2.CX P w) P w K mg base ["text", "members", "thing"] "read" (defScope s_read) f cdv A outer s H E) (E := E) rfl rfl rfl rfl
    refine ⟨_, (pss_cons (ps_if (pt_cmpR op_gt (pe_callB call_len_str (by rfl) B.len (by decide +kernel) (pa_cons (pv 0) pa_nil)) (pe_glob (v := .int 40) rfl B.MOST ⟨_, rfl⟩) (nomark _)) (pss_one (ps_raise rfl tk (pmk_own PySem.F.excBase_ValueError X_NoNote.x X_NoNote.g X_NoNote.k (raises_own X_NoNote.b X_NoNote.t) (by rfl)))) pss_nil)
    (pss_cons (ps_set (i := 1) sc_read.nd rfl (.inl rfl) (pe_lst pa_nil))
    (pss_cons (ps_for (passes_of rfl) rfl (pi_range1 (by rfl) B.range (pa_cons (pe_callB call_len_str (by rfl) B.len (by decide +kernel) (pa_cons (pv 0) pa_nil)) pa_nil)) (pg_name (i := 2) sc_read.nd rfl (.inl rfl)) (pss_one (ps_if (pt_cmpR op_eq (pe_ix ix_str (pv 0) (pv 2) (fun _ _ => rfl)) pe_str (nomark _)) (pss_one (ps_expr (pe_bm PySem.F.plainAttrs_list PySem.F.slot_list_append PySem.F.type_list_append mt_append (pv 1) (pa_cons (pv 2) pa_nil)))) (pss_one (ps_if (pt_cmpR op_ne (pe_ix ix_str (pv 0) (pv 2) (fun _ _ => rfl)) pe_str (nomark _)) (pss_one (ps_raise rfl tk (pmk_own PySem.F.excBase_ValueError X_NoNote.x X_NoNote.g X_NoNote.k (raises_own X_NoNote.b X_NoNote.t) (by rfl)))) pss_nil)))))
    (pss_one (ps_ret (pe_tup (pa_cons (pe_callB call_len_str (by rfl) B.len (by decide +kernel) (pa_cons (pv 0) pa_nil)) (pa_cons (pv 1) pa_nil)))))))), ?_⟩
    have hz : (txt L).length ≤ sizeLine := sz_le (by rw [txt_len]; omega)
    refine ⟨_, rfl, _, rfl, hz, _, _, rfl, rfl, _, rfl, ite2 (fun h1 => ?_) (fun h1 => ?_)⟩
    · have h1 : (40 : Int) < (L.length : Int) := of_decide_eq_true h1
      refine kE (fun z => ?_) _ (Same.refl _)
      have := z.1
      omega
    have h1' : ¬ (40 : Int) < (L.length : Int) := fun z => h1 (decide_eq_true z)
    have lL : L.length ≤ 40 := by omega
    refine ⟨sz_le (by show 0 ≤ _; omega), fun l nl => ?_⟩
    refine ⟨_, rfl, _, rfl, hz, _, rfl, by omega, (by show ((txt L).length : Int) < _; rw [txt_len]; omega), ?_⟩
    refine for_range (lo := 0) (n := (((txt L).length : Nat) : Int).toNat) (fun i σ H' => H' = upd H l (.lst ((closers (L.take i)).map V.int)) ∧ (∀ c ∈ L.take i, c = 40 ∨ c = 41) ∧ ∃ y, σ = [some (.str (txt L)), some (.ref l), y]) ⟨by rw [List.take_zero]; rfl, by rw [List.take_zero]; exact (fun _ h => nomatch h), none, rfl⟩ ?_ ?_
    · rintro i σ H' hi ⟨rfl, hg, y, rfl⟩
      have hi' : i < L.length := by
        have : (((txt L).length : Nat) : Int).toNat = L.length := rfl
        omega
      have gi : L[i]? = some L[i] := List.getElem?_eq_getElem hi'
      generalize L[i] = c at *
      have ei : ((0 : Int) + (i : Int)) = (i : Int) := Int.zero_add _
      have he : atI (txt L).cps.toList ((0 : Int) + (i : Int)) = some c := by
        rw [ei]
        exact atI_nat gi
      have ti := take_snoc gi
      have cs := closers_snoc (L.take i) c
      rw [← ti] at cs
      have tl : (L.take i).length = i := by rw [List.length_take]; omega
      rw [tl] at cs
      have cl := (closers_set (L.take i)).len
      have hl : (upd H l (.lst ((closers (L.take i)).map V.int))) l = some (.lst ((closers (L.take i)).map V.int)) := upd_same
      refine ⟨_, rfl, _, rfl, txt L, _, c, rfl, rfl, hz, he, rfl, _, rfl, ?_⟩
      rw [txt_close, one_eq]
      by_cases h41 : c = 41
      · rw [decide_eq_true h41]
        refine iteT ?_
        refine ⟨_, rfl, .inl ⟨rfl, _, SqL.of hl⟩, _, rfl, l, _, _, rfl, rfl, hl, sz_lt (by rw [List.length_map]; omega), ?_⟩
        refine ⟨?_, fun d hd => ?_, _, rfl⟩
        · rw [upd_upd, cs, if_pos h41, List.map_append, ei]
          rfl
        · rw [ti] at hd
          rcases List.mem_append.mp hd with hd | hd
          · exact hg d hd
          · rw [List.mem_singleton.mp hd]
            exact .inr h41
      · rw [decide_eq_false h41]
        refine iteF ?_
        refine ⟨_, rfl, _, rfl, txt L, _, c, rfl, rfl, hz, he, rfl, _, rfl, ?_⟩
        rw [txt_open, one_eq]
        by_cases h40 : c = 40
        · rw [decide_eq_true h40]
          refine iteF ?_
          refine ⟨?_, fun d hd => ?_, _, rfl⟩
          · rw [cs, if_neg h41]
          · rw [ti] at hd
            rcases List.mem_append.mp hd with hd | hd
            · exact hg d hd
            · rw [List.mem_singleton.mp hd]
              exact .inl h40
        · rw [decide_eq_false h40]
          refine iteT ?_
          refine kE (fun z => ?_) _ (same_new nl)
          rcases z.2 c (List.mem_of_getElem? gi) with e | e
          · exact h40 e
          · exact h41 e
    · rintro σ H' ⟨rfl, hg, y, rfl⟩
      have en : (((txt L).length : Nat) : Int).toNat = L.length := rfl
      rw [en, List.take_length] at hg
      rw [en, List.take_length]
      refine ⟨_, rfl, _, rfl, hz, _, rfl, sz_le (by show 2 ≤ _; omega), fun p np => ?_⟩
      refine kQ ⟨lL, hg⟩ _ p l ⟨(same_new nl).trans (same_new np), (same_new nl).free np, nl, ?_, ?_⟩
      · rw [upd_same]
        rfl
      · rw [upd_ne (ne_of_none upd_same np), upd_same]
/-! #### _law_cell_at -/
def cellI (ns : List Int) (k : Nat) : Int := ns.getD k 0
def spCellAt (K : PySem.W.Frag) : Sp := fun vs H Q _ => ∃ (a : Addr) (ns : List Int) (k : Nat), vs = [.ref a, .int (k : Int)] ∧ SqL K H a (ns.map V.int) ∧ Q (.int (cellI ns k)) H
theorem ok__law_cell_at (A : At K mg "_law_cell_at" s__law_cell_at) (B : Bt mg tM) :
    Def P w K mg base CX0 1 "_law_cell_at" ["script", "k"] (spCellAt K) := by
  obtain ⟨f, fd, F, gm⟩ := A
  refine ⟨⟨f, fd, F.ok sc__law_cell_at (fun vs H Q E h => ?_) (fun cdv A outer s H vs Q E hr h => ?_), gm, F.kp, F.binds fun _ _ _ _ _ _ us hl => match us, hl with | [_, _], _ => rfl⟩⟩
  · obtain ⟨a, ns, k, rfl, _⟩ := h
    rfl
  · obtain ⟨a, ns, k, rfl, hS, q⟩ := h
    refine ⟨_, (pss_cons (ps_if (pt_cmpR op_lt (pv 1) (pe_callB call_len_seq (by rfl) B.len (by decide +kernel) (pa_cons (pv 0) pa_nil)) (nomark _)) (pss_one (ps_ret (pe_ix ix_list (pv 0) (pv 1) (fun _ _ => rfl)))) pss_nil)
    (pss_one (ps_ret pe_int))), ?_⟩
    refine ⟨_, rfl, _, rfl, a, _, rfl, .inl hS, _, _, rfl, rfl, _, rfl, ite2 (fun h1 => ?_) (fun h1 => ?_)⟩
    · have h1 := of_decide_eq_true h1
      rw [List.length_map] at h1
      have hk : k < ns.length := by omega
      have e : ns[k]? = some (cellI ns k) := by
        unfold cellI
        rw [List.getD_eq_getElem?_getD, List.getElem?_eq_getElem hk]
        rfl
      exact ⟨_, rfl, _, rfl, a, _, _, _, rfl, rfl, hS, atI_int rfl e, q⟩
    · have h1 : ¬ _ := fun z => h1 (decide_eq_true z)
      rw [List.length_map] at h1
      have e : cellI ns k = 0 := by
        unfold cellI
        rw [List.getD_eq_getElem?_getD, List.getElem?_eq_none (by omega)]
        rfl
      rw [e] at q
      exact q
/-! #### _law_whole -/
def spWhole (K : PySem.W.Frag) : Sp := fun vs H Q _ => ∃ n : Int, vs = [.int n] ∧ Q (.bl true) H
theorem ok__law_whole (A : At K mg "_law_whole" s__law_whole) (B : Bt mg tM) :
    Def P w K mg base CX0 1 "_law_whole" ["found"] (spWhole K) := by
  obtain ⟨f, fd, F, gm⟩ := A
  refine ⟨⟨f, fd, F.ok sc__law_whole (fun vs H Q E h => ?_) (fun cdv A outer s H vs Q E hr h => ?_), gm, F.kp, F.binds fun _ _ _ _ _ _ us hl => match us, hl with | [_], _ => rfl⟩⟩
  · obtain ⟨n, rfl, _⟩ := h
    rfl
  · obtain ⟨n, rfl, q⟩ := h
    refine ⟨_, (pss_one (ps_ret (pe_and (pe_callB call_isi (by rfl) B.isinstance (by decide +kernel) (pa_cons (pv 0) (pa_cons (pe_bltn (v := .ty "int") (by rfl) B.int (by decide +kernel) rfl) pa_nil))) (pe_one (pe_not (pe_callB call_isi (by rfl) B.isinstance (by decide +kernel) (pa_cons (pv 0) (pa_cons (pe_bltn (v := .ty "bool") (by rfl) B.bool (by decide +kernel) rfl) pa_nil)))))))), ?_⟩
    refine ⟨_, rfl, _, _, _, _, _, rfl, .ty "int", .base (.int n), kit_ty (a := "int") (b := "int") (r := true) (by decide +kernel), true, rfl, iteT ?_⟩
    exact ⟨_, rfl, _, _, _, _, _, rfl, .ty "bool", .base (.int n), kit_ty (a := "int") (b := "bool") (r := false) (by decide +kernel), false, rfl, q⟩
/-! #### _law_set_by -/
def spSetBy (K : PySem.W.Frag) : Sp := fun vs H Q _ => ∃ (a : Addr) (ns : List Int) (k n : Nat), vs = [.ref a, .int (k : Int), .int (n : Int)] ∧ n ≤ 60 ∧ SqL K H a (ns.map V.int) ∧
  ∀ H' p ms, Same H H' → H p = none → IsSet n ms → H' p = some (.lst (ms.map V.int)) → Q (.ref p) H'
theorem ok__law_set_by (A : At K mg "_law_set_by" s__law_set_by) (B : Bt mg tM) (D__law_cell_at : Def P w K mg base CX0 1 "_law_cell_at" ["script", "k"] (spCellAt K)) :
    Def P w K mg base CX0 2 "_law_set_by" ["script", "at", "size"] (spSetBy K) := by
  obtain ⟨f, fd, F, gm⟩ := A
  obtain ⟨f__law_cell_at, fd__law_cell_at, G__law_cell_at, g__law_cell_at, k__law_cell_at, b__law_cell_at⟩ := D__law_cell_at.ex
  refine ⟨⟨f, fd, F.ok sc__law_set_by (fun vs H Q E h => ?_) (fun cdv A outer s H vs Q E hr h => ?_), gm, F.kp, F.binds fun _ _ _ _ _ _ us hl => match us, hl with | [_, _, _], _ => rfl⟩⟩
  · obtain ⟨a, ns, k, n, rfl, _⟩ := h
    rfl
  · obtain ⟨a, ns, k, n, rfl, hn, hS, q⟩ := h
    refine ⟨_, (pss_cons (ps_set (i := 3) sc__law_set_by.nd rfl (.inl rfl) (pe_call G__law_cell_at (hr.mono (by decide)) (by rfl) g__law_cell_at k__law_cell_at b__law_cell_at .nil pass0 (pa_cons (pv 0) (pa_cons (pv 1) pa_nil))))
    (pss_cons (ps_set (i := 4) sc__law_set_by.nd rfl (.inl rfl) (pe_call G__law_cell_at (hr.mono (by decide)) (by rfl) g__law_cell_at k__law_cell_at b__law_cell_at .nil pass0 (pa_cons (pv 0) (pa_cons (pe_op op_add (pv 1) pe_int) pa_nil))))
    (pss_cons (ps_set (i := 5) sc__law_set_by.nd rfl (.inl rfl) (pe_lst pa_nil))
    (pss_cons (ps_for PassesOwn.never rfl (pi_range1 (by rfl) B.range (pa_cons (pv 2) pa_nil)) (pg_name (i := 6) sc__law_set_by.nd rfl (.inl rfl)) (pss_cons (ps_if (pt_cmpR op_eq (pe_op op_mod (pv 3) pe_int) pe_int (nomark _)) (pss_one (ps_expr (pe_bm PySem.F.plainAttrs_list PySem.F.slot_list_append PySem.F.type_list_append mt_append (pv 5) (pa_cons (pv 6) pa_nil)))) pss_nil)
    (pss_one (ps_par (i := 3) (j := 4) (by rfl) sc__law_set_by.nd rfl rfl (by decide) rfl rfl (pa_cons (pv 4) (pa_cons (pe_op op_fdivN (pv 3) pe_int) pa_nil)) (by rfl)))))
    (pss_one (ps_ret (pv 5))))))), ?_⟩
    refine ⟨_, rfl, _, rfl, a, ns, k, rfl, hS, _, rfl, _, rfl, _, _, rfl, rfl, a, ns, k + 1, rfl, hS, sz_le (by show 0 ≤ _; omega), fun p np => ?_⟩
    refine ⟨_, rfl, (n : Int), rfl, by omega, by omega, ?_⟩
    refine for_range (lo := 0) (n := ((n : Int)).toNat) (fun i σ H' => Same H H' ∧ ∃ (ms : List Int) (u v : Int) (y : Option V), σ = [some (.ref a), some (.int (k : Int)), some (.int (n : Int)), some (.int u), some (.int v), some (.ref p), y] ∧ IsSet i ms ∧ H' p = some (.lst (ms.map V.int)))
      ⟨same_new np, [], _, _, none, rfl, isSet_nil 0, upd_same⟩ ?_ ?_
    · rintro i σ H1 hi ⟨s1, ms, u, v, y, rfl, hset, hp⟩
      have hl := hset.len
      refine ⟨_, rfl, _, _, rfl, rfl, (by show (0 : Int) < 2; decide), rfl, _, rfl, ite2 (fun _ => ?_) (fun _ => ?_)⟩
      · refine ⟨_, rfl, .inl ⟨rfl, _, SqL.of hp⟩, _, rfl, p, _, _, rfl, rfl, hp, sz_lt (by rw [List.length_map]; omega), ?_⟩
        refine ⟨_, rfl, _, rfl, _, _, rfl, rfl, ⟨by decide, by decide⟩, _, _, rfl, ?_⟩
        refine ⟨same_mut s1 np, ms ++ [(i : Int)], _, _, some (.int ((0 : Int) + (i : Int))), rfl, ⟨?_, ?_, ?_⟩, ?_⟩
        · refine List.pairwise_append.mpr ⟨hset.up, List.pairwise_singleton _ _, fun x hx z hz => ?_⟩
          rw [List.mem_singleton] at hz
          have := hset.hi x hx
          omega
        · intro x hx
          rcases List.mem_append.mp hx with hx | hx
          · exact hset.lo x hx
          · rw [List.mem_singleton] at hx
            omega
        · intro x hx
          rcases List.mem_append.mp hx with hx | hx
          · have := hset.hi x hx
            omega
          · rw [List.mem_singleton] at hx
            omega
        · rw [upd_same, List.map_append, Int.zero_add]
          rfl
      · refine ⟨_, rfl, _, rfl, _, _, rfl, rfl, ⟨by decide, by decide⟩, _, _, rfl, ?_⟩
        exact ⟨s1, ms, _, _, some (.int ((0 : Int) + (i : Int))), rfl, ⟨hset.up, hset.lo, fun x hx => by have := hset.hi x hx; omega⟩, hp⟩
    · rintro σ H1 ⟨s1, ms, u, v, y, rfl, hset, hp⟩
      exact ⟨_, rfl, q H1 p ms s1 np hset hp⟩
/-! #### _law_is_set -/
theorem take_all {l : List Int} {n : Nat} (h : l.length = n) : l.take n = l := by rw [← h, List.take_length]
def spIsSet (K : PySem.W.Frag) : Sp := fun vs H Q _ => ∃ (a b : Addr) (xs ys : List Int), vs = [.ref a, .ref b] ∧ H a = some (.lst (xs.map V.int)) ∧ SqL K H b (ys.map V.int) ∧ ys.length ≤ 1000 ∧ Q (.bl (decide (xs = ys))) H
theorem ok__law_is_set (A : At K mg "_law_is_set" s__law_is_set) (B : Bt mg tM) (D__law_whole : Def P w K mg base CX0 1 "_law_whole" ["found"] (spWhole K)) :
    Def P w K mg base CX0 2 "_law_is_set" ["found", "due"] (spIsSet K) := by
  obtain ⟨f, fd, F, gm⟩ := A
  obtain ⟨f__law_whole, fd__law_whole, G__law_whole, g__law_whole, k__law_whole, b__law_whole⟩ := D__law_whole.ex
  refine ⟨⟨f, fd, F.ok sc__law_is_set (fun vs H Q E h => ?_) (fun cdv A outer s H vs Q E hr h => ?_), gm, F.kp, F.binds fun _ _ _ _ _ _ us hl => match us, hl with | [_, _], _ => rfl⟩⟩
  · obtain ⟨a, b, xs, ys, rfl, _⟩ := h
    rfl
  · obtain ⟨a, b, xs, ys, rfl, ha, hb, hy, q⟩ := h
    refine ⟨_, (pss_cons (ps_if (PW.pt (pw_or (pt_not (pt_val (pe_callB call_isi (by rfl) B.isinstance (by decide +kernel) (pa_cons (pv 0) (pa_cons (pe_bltn (v := .ty "list") (by rfl) B.list (by decide +kernel) rfl) pa_nil))))) (pw_or1 (pt_cmpR op_ne (pe_callB call_len_seq (by rfl) B.len (by decide +kernel) (pa_cons (pv 0) pa_nil)) (pe_callB call_len_seq (by rfl) B.len (by decide +kernel) (pa_cons (pv 1) pa_nil)) (nomark _))))) (pss_one (ps_ret pe_bl)) pss_nil)
    (pss_cons (ps_for PassesOwn.never rfl (pi_range1 (by rfl) B.range (pa_cons (pe_callB call_len_seq (by rfl) B.len (by decide +kernel) (pa_cons (pv 1) pa_nil)) pa_nil)) (pg_name (i := 2) sc__law_is_set.nd rfl (.inl rfl)) (pss_one (ps_if (PW.pt (pw_or (pt_not (pt_val (pe_call G__law_whole (hr.mono (by decide)) (by rfl) g__law_whole k__law_whole b__law_whole .nil pass0 (pa_cons (pe_ix ix_list (pv 0) (pv 2) (fun _ _ => rfl)) pa_nil)))) (pw_or1 (pt_cmpR op_ne (pe_ix ix_list (pv 0) (pv 2) (fun _ _ => rfl)) (pe_ix ix_list (pv 1) (pv 2) (fun _ _ => rfl)) (nomark _))))) (pss_one (ps_ret pe_bl)) pss_nil)))
    (pss_one (ps_ret pe_bl)))), ?_⟩
    refine ⟨_, rfl, _, _, _, _, _, rfl, .ty "list", .base (.lst ha), kit_ty (a := "list") (b := "list") (r := true) (by decide +kernel), true, rfl, ?_⟩
    refine iteF ⟨_, rfl, a, _, rfl, .inl (SqL.of ha), _, rfl, b, _, rfl, .inl hb, rfl, _, rfl, ite2 (fun h1 => ?_) (fun h1 => ?_)⟩
    · have ne : ¬ xs = ys := fun e => by
        subst e
        rw [decide_eq_true rfl] at h1
        cases h1
      rw [decide_eq_false ne] at q
      exact q
    · have el : xs.length = ys.length := by
        by_cases e : (V.int ((xs.map V.int).length : Int)) = V.int ((ys.map V.int).length : Int)
        · have := V.int.inj e
          rw [List.length_map, List.length_map] at this
          omega
        · exact absurd (by rw [decide_eq_false e]; rfl) h1
      refine ⟨_, rfl, b, _, rfl, .inl hb, _, rfl, by omega, by rw [List.length_map]; omega, ?_⟩
      refine for_range (lo := 0) (n := (((ys.map V.int).length : Nat) : Int).toNat) (fun i σ H' => H' = H ∧ xs.take i = ys.take i ∧ ∃ y, σ = [some (.ref a), some (.ref b), y]) ⟨rfl, rfl, none, rfl⟩ ?_ ?_
      · rintro i σ H' hi ⟨rfl, et, y, rfl⟩
        have hi' : i < ys.length := by rw [List.length_map] at hi; omega
        have gx : xs[i]? = some xs[i] := List.getElem?_eq_getElem (by omega)
        have gy : ys[i]? = some ys[i] := List.getElem?_eq_getElem hi'
        have sx := take_snoc gx
        have sy := take_snoc gy
        generalize xs[i] = u at *
        generalize ys[i] = v at *
        have ei : ((0 : Int) + (i : Int)) = (i : Int) := Int.zero_add _
        refine ⟨_, rfl, _, rfl, a, _, _, _, rfl, rfl, SqL.of ha, atI_int ei gx, _, rfl, true, rfl, ?_⟩
        refine iteF ⟨_, rfl, _, rfl, a, _, _, _, rfl, rfl, SqL.of ha, atI_int ei gx, _, rfl, _, rfl, b, _, _, _, rfl, rfl, hb, atI_int ei gy, rfl, _, rfl, ite2 (fun h2 => ?_) (fun h2 => ?_)⟩
        · have ne : ¬ xs = ys := fun e => by
            subst e
            rw [gx] at gy
            cases gy
            rw [decide_eq_true rfl] at h2
            cases h2
          rw [decide_eq_false ne] at q
          exact q
        · have ev : u = v := by
            by_cases e : V.int u = V.int v
            · exact V.int.inj e
            · exact absurd (by rw [decide_eq_false e]; rfl) h2
          subst ev
          exact ⟨rfl, by rw [sx, sy, et], _, rfl⟩
      · rintro σ H' ⟨rfl, et, y, rfl⟩
        have e : xs = ys := by
          have en : (((ys.map V.int).length : Nat) : Int).toNat = ys.length := by rw [List.length_map]; rfl
          rw [en, take_all el, List.take_length] at et
          exact et
        rw [decide_eq_true e] at q
        exact q
/-! #### _law_word_of -/
theorem ok__law_word_of {C_ChainError : Addr} {C_NoMany : Addr} {C_NoSet : Addr} {C_NoNumber : Addr} {C_NoNote : Addr} (A : At K mg "_law_word_of" s__law_word_of) (B : Bt mg tM) (Z_NoMany : XC K mg "NoMany" C_NoMany) (Z_NoSet : XC K mg "NoSet" C_NoSet) (Z_NoNumber : XC K mg "NoNumber" C_NoNumber) (Z_NoNote : XC K mg "NoNote" C_NoNote) :
    DefP P w K mg base 1 "_law_word_of" ["e"] (spWord K C_ChainError C_NoMany C_NoSet C_NoNumber C_NoNote) := by
  obtain ⟨f, fd, F, gm⟩ := A
  refine ⟨⟨f, fd, fnP F sc__law_word_of (fun a c d vs H Q E h => ?_) (fun cdv A outer s H vs Q p c d hr zc fl h => ?_), gm, F.kp, F.binds fun _ _ _ _ _ _ us hl => match us, hl with | [_], _ => rfl⟩⟩
  · obtain ⟨rfl, _⟩ := h
    rfl
  · obtain ⟨rfl, D, b1, b2, b3, b4, z, rfl, rfl, Y, hot, q⟩ := h
    refine ⟨_, (pss_cons (ps_set (i := 1) sc__law_word_of.nd rfl (.inl rfl) (pe_lst (pa_cons (pe_callB (call_isP Y.e (List.mem_singleton.mpr rfl) zc fl) (by rfl) B.isinstance (by decide +kernel) (pa_cons (pv 0) (pa_cons (pe_glob (v := .ref C_NoMany) rfl Z_NoMany.g rfl) pa_nil))) (pa_cons (pe_callB (call_isP Y.e (List.mem_singleton.mpr rfl) zc fl) (by rfl) B.isinstance (by decide +kernel) (pa_cons (pv 0) (pa_cons (pe_glob (v := .ref C_NoSet) rfl Z_NoSet.g rfl) pa_nil))) (pa_cons (pe_callB (call_isP Y.e (List.mem_singleton.mpr rfl) zc fl) (by rfl) B.isinstance (by decide +kernel) (pa_cons (pv 0) (pa_cons (pe_glob (v := .ref C_NoNumber) rfl Z_NoNumber.g rfl) pa_nil))) (pa_cons (pe_callB (call_isP Y.e (List.mem_singleton.mpr rfl) zc fl) (by rfl) B.isinstance (by decide +kernel) (pa_cons (pv 0) (pa_cons (pe_glob (v := .ref C_NoNote) rfl Z_NoNote.g rfl) pa_nil))) pa_nil))))))
    (pss_cons (ps_if (PW.pt (pw_or (pt_cmpR op_ne (pe_bm PySem.F.plainAttrs_list PySem.F.slot_list_count PySem.F.type_list_count (mt_countD (uH hr)) (pv 1) (pa_cons pe_bl pa_nil)) pe_int (nomark _)) (pw_or1 (pt_not (pt_val (pe_callB (call_isP Y.e (List.mem_singleton.mpr rfl) zc fl) (by rfl) B.isinstance (by decide +kernel) (pa_cons (pv 0) (pa_cons (pe_bltn (v := .ty "ValueError") (by rfl) B.ValueError (by decide +kernel) rfl) pa_nil)))))))) (pss_one (ps_ret pe_str)) pss_nil)
    (pss_one (ps_ret (pe_ix ix_list (pe_lst (pa_cons pe_str (pa_cons pe_str (pa_cons pe_str (pa_cons pe_str pa_nil))))) (pe_bm PySem.F.plainAttrs_list PySem.F.slot_list_index PySem.F.type_list_index mt_index (pv 1) (pa_cons pe_bl pa_nil)) (fun _ _ => rfl)))))), ?_⟩
    have k1 := kit_own Y.self Z_NoMany.d Z_NoMany.t Y.s1
    have k2 := kit_own Y.self Z_NoSet.d Z_NoSet.t Y.s2
    have k3 := kit_own Y.self Z_NoNumber.d Z_NoNumber.t Y.s3
    have k4 := kit_own Y.self Z_NoNote.d Z_NoNote.t Y.s4
    have kv := kit_val Y.v
    refine ⟨_, rfl, _, _, b1, rfl, (fun _ => own_val), k1, _, rfl, _, _, b2, rfl, (fun _ => own_val), k2, _, rfl, _, _, b3, rfl, (fun _ => own_val), k3, _, rfl, _, _, b4, rfl, (fun _ => own_val), k4, sz_le (by show 4 ≤ _; omega), fun l nl => ?_⟩
    have s1 : Same H (upd H l (.lst [.bl b1, .bl b2, .bl b3, .bl b4])) := same_new nl
    have hl : (upd H l (.lst [.bl b1, .bl b2, .bl b3, .bl b4])) l = some (.lst [.bl b1, .bl b2, .bl b3, .bl b4]) := upd_same
    generalize upd H l (.lst [.bl b1, .bl b2, .bl b3, .bl b4]) = H1 at *
    rcases hot with ⟨rfl, rfl, rfl, rfl, rfl⟩ | ⟨rfl, rfl, rfl, rfl, rfl⟩ | ⟨rfl, rfl, rfl, rfl, rfl⟩ | ⟨rfl, rfl, rfl, rfl, rfl⟩
    · refine ⟨_, rfl, .inl ⟨rfl, _, SqL.of hl⟩, l, _, .bool true, [.bool true, .bool false, .bool false, .bool false], rfl, rfl, .lst (SqL.of hl) (.cons (.bl _) (.cons (.bl _) (.cons (.bl _) (.cons (.bl _) .nil)))), .bl _, by decide +kernel, by decide +kernel, rfl, _, rfl, ?_⟩
      refine iteF ?_
      refine ⟨_, rfl, _, _, true, rfl, (fun _ => ty_val), kv, true, rfl, iteF ?_⟩
      refine ⟨sz_le (by show 4 ≤ _; omega), fun m nm => ?_⟩
      have s2 := same_new (o := .lst [.str (Str.ofString "many"), .str (Str.ofString "set"), .str (Str.ofString "number"), .str (Str.ofString "note")]) nm
      refine ⟨_, rfl, .inl ⟨rfl, _, SqL.of (s2 _ _ hl)⟩, l, _, _, 0, _, rfl, rfl, SqL.of (s2 _ _ hl), rfl, rfl, rfl, rfl, (fun i y hi => absurd hi (by omega)), m, _, _, _, rfl, rfl, SqL.of upd_same, atI_nat (j := 0) rfl, q _ (s1.trans s2)⟩
    · refine ⟨_, rfl, .inl ⟨rfl, _, SqL.of hl⟩, l, _, .bool true, [.bool false, .bool true, .bool false, .bool false], rfl, rfl, .lst (SqL.of hl) (.cons (.bl _) (.cons (.bl _) (.cons (.bl _) (.cons (.bl _) .nil)))), .bl _, by decide +kernel, by decide +kernel, rfl, _, rfl, ?_⟩
      refine iteF ?_
      refine ⟨_, rfl, _, _, true, rfl, (fun _ => ty_val), kv, true, rfl, iteF ?_⟩
      refine ⟨sz_le (by show 4 ≤ _; omega), fun m nm => ?_⟩
      have s2 := same_new (o := .lst [.str (Str.ofString "many"), .str (Str.ofString "set"), .str (Str.ofString "number"), .str (Str.ofString "note")]) nm
      refine ⟨_, rfl, .inl ⟨rfl, _, SqL.of (s2 _ _ hl)⟩, l, _, _, 1, _, rfl, rfl, SqL.of (s2 _ _ hl), rfl, rfl, rfl, rfl, (fun i y hi hy => ?_), m, _, _, _, rfl, rfl, SqL.of upd_same, atI_nat (j := 1) rfl, q _ (s1.trans s2)⟩
      match i, hi, hy with
      | 0, _, rfl => rfl
    · refine ⟨_, rfl, .inl ⟨rfl, _, SqL.of hl⟩, l, _, .bool true, [.bool false, .bool false, .bool true, .bool false], rfl, rfl, .lst (SqL.of hl) (.cons (.bl _) (.cons (.bl _) (.cons (.bl _) (.cons (.bl _) .nil)))), .bl _, by decide +kernel, by decide +kernel, rfl, _, rfl, ?_⟩
      refine iteF ?_
      refine ⟨_, rfl, _, _, true, rfl, (fun _ => ty_val), kv, true, rfl, iteF ?_⟩
      refine ⟨sz_le (by show 4 ≤ _; omega), fun m nm => ?_⟩
      have s2 := same_new (o := .lst [.str (Str.ofString "many"), .str (Str.ofString "set"), .str (Str.ofString "number"), .str (Str.ofString "note")]) nm
      refine ⟨_, rfl, .inl ⟨rfl, _, SqL.of (s2 _ _ hl)⟩, l, _, _, 2, _, rfl, rfl, SqL.of (s2 _ _ hl), rfl, rfl, rfl, rfl, (fun i y hi hy => ?_), m, _, _, _, rfl, rfl, SqL.of upd_same, atI_nat (j := 2) rfl, q _ (s1.trans s2)⟩
      match i, hi, hy with
      | 0, _, rfl => rfl
      | 1, _, rfl => rfl
    · refine ⟨_, rfl, .inl ⟨rfl, _, SqL.of hl⟩, l, _, .bool true, [.bool false, .bool false, .bool false, .bool true], rfl, rfl, .lst (SqL.of hl) (.cons (.bl _) (.cons (.bl _) (.cons (.bl _) (.cons (.bl _) .nil)))), .bl _, by decide +kernel, by decide +kernel, rfl, _, rfl, ?_⟩
      refine iteF ?_
      refine ⟨_, rfl, _, _, true, rfl, (fun _ => ty_val), kv, true, rfl, iteF ?_⟩
      refine ⟨sz_le (by show 4 ≤ _; omega), fun m nm => ?_⟩
      have s2 := same_new (o := .lst [.str (Str.ofString "many"), .str (Str.ofString "set"), .str (Str.ofString "number"), .str (Str.ofString "note")]) nm
      refine ⟨_, rfl, .inl ⟨rfl, _, SqL.of (s2 _ _ hl)⟩, l, _, _, 3, _, rfl, rfl, SqL.of (s2 _ _ hl), rfl, rfl, rfl, rfl, (fun i y hi hy => ?_), m, _, _, _, rfl, rfl, SqL.of upd_same, atI_nat (j := 3) rfl, q _ (s1.trans s2)⟩
      match i, hi, hy with
      | 0, _, rfl => rfl
      | 1, _, rfl => rfl
      | 2, _, rfl => rfl
/-! #### _law_odd_sign -/
def oddA : List Nat := [32, 33, 34, 35, 36, 38, 39, 42, 43, 44, 45, 46, 47, 48, 49, 50, 51, 52, 53, 54, 55, 56, 57, 58, 59, 60, 61, 62, 63, 64, 65, 66, 67, 68, 69, 70, 71, 72, 73, 74, 75, 76, 77, 78, 79, 80, 81, 82, 83, 84, 85, 86, 87, 88, 89, 90, 91, 92, 93, 94, 95]
def oddB : List Nat := [97, 98, 99, 100, 101, 102, 103, 104, 105, 106, 107, 108, 109, 110, 111, 112, 113, 114, 115, 116, 117, 118, 119, 120, 121, 122, 123, 124, 125, 126, 10]
def spOdd : Sp := fun vs H Q _ => ∃ c : Int, vs = [.int c] ∧ ∀ x : Nat, x ≠ 40 → x ≠ 41 → Q (.str (txt [x])) H
theorem odd_no : (oddA ++ oddB).all (fun x => x != 40 && x != 41) = true := by decide +kernel
theorem ok__law_odd_sign (A : At K mg "_law_odd_sign" s__law_odd_sign) (B : Bt mg tM) :
    Def P w K mg base CX0 1 "_law_odd_sign" ["cell"] spOdd := by
  obtain ⟨f, fd, F, gm⟩ := A
  refine ⟨⟨f, fd, F.ok sc__law_odd_sign (fun vs H Q E h => ?_) (fun cdv A outer s H vs Q E hr h => ?_), gm, F.kp, F.binds fun _ _ _ _ _ _ us hl => match us, hl with | [_], _ => rfl⟩⟩
  · obtain ⟨c, rfl, _⟩ := h
    rfl
  · obtain ⟨c, rfl, q⟩ := h
    refine ⟨_, (pss_cons (ps_set (i := 1) sc__law_odd_sign.nd rfl (.inl rfl) pe_str)
    (pss_cons (ps_set (i := 1) sc__law_odd_sign.nd rfl (.inl rfl) (pe_op op_add_str (pv 1) pe_str))
    (pss_one (ps_ret (pe_ix ix_str (pv 1) (pe_op op_mod (pv 0) (pe_callB call_len_str (by rfl) B.len (by decide +kernel) (pa_cons (pv 1) pa_nil))) (fun _ _ => rfl)))))), ?_⟩
    have eA : Str.ofString " !\"#$&'*+,-./0123456789:;<=>?@ABCDEFGHIJKLMNOPQRSTUVWXYZ[\\]^_" = txt oddA := by decide +kernel
    have eB : Str.ofString "abcdefghijklmnopqrstuvwxyz{|}~\n" = txt oddB := by decide +kernel
    refine ⟨_, rfl, _, _, rfl, rfl, ?_, ?_⟩
    · rw [eA, eB]
      exact sz_le (by decide)
    rw [eA, eB, txt_app]
    have ll : (oddA ++ oddB).length = 92 := rfl
    have l2 : ((txt (oddA ++ oddB)).length : Int) = 92 := rfl
    obtain ⟨i, hi, e⟩ : ∃ i : Nat, i < 92 ∧ c % 92 = (i : Int) := ⟨(c % 92).toNat, by omega, by omega⟩
    have gi : (oddA ++ oddB)[i]? = some (oddA ++ oddB)[i] := List.getElem?_eq_getElem (by omega)
    have no := List.all_eq_true.mp odd_no _ (List.getElem_mem (l := oddA ++ oddB) (n := i) (by omega))
    generalize (oddA ++ oddB)[i] = x at *
    have no : x ≠ 40 ∧ x ≠ 41 := by simpa using no
    have hz : (txt (oddA ++ oddB)).length ≤ sizeLine := sz_le (by decide)
    have at0 : atI (txt (oddA ++ oddB)).cps.toList (c % ((txt (oddA ++ oddB)).length : Int)) = some x := by
      rw [l2, e]
      exact atI_nat gi
    generalize txt (oddA ++ oddB) = T at *
    refine ⟨_, rfl, _, rfl, _, rfl, T, rfl, hz, _, _, rfl, rfl, (by show (0 : Int) < (T.length : Int); rw [l2]; decide), T, _, x, rfl, rfl, hz, at0, q x no.1 no.2⟩
/-! #### _law_refused -/
def spRefused : Sp := fun vs H Q _ => ∃ L : List Nat, vs = [.str (txt L)] ∧ L.length ≤ 1000 ∧ ¬ okT L ∧ ∀ H', Same H H' → Q (.bl true) H'
theorem ok__law_refused {C_NoNote : Addr} {C_ChainError : Addr} {C_NoMany : Addr} {C_NoSet : Addr} {C_NoNumber : Addr} (A : At K mg "_law_refused" s__law_refused) (B : Bt mg tM) (Z_ChainError : XC K mg "ChainError" C_ChainError) (Y_NoNote : XK K C_NoNote C_ChainError C_NoMany C_NoSet C_NoNumber C_NoNote false false false true) (D_read : Def P w K mg base (L2.CX P w) 1 "read" ["text"] (spRead C_NoNote)) (D__law_word_of : DefP P w K mg base 1 "_law_word_of" ["e"] (spWord K C_ChainError C_NoMany C_NoSet C_NoNumber C_NoNote)) :
    Def P w K mg base CX0 2 "_law_refused" ["text"] spRefused := by
  obtain ⟨f, fd, F, gm⟩ := A
  obtain ⟨f_read, fd_read, G_read, g_read, k_read, b_read⟩ := D_read.ex
  obtain ⟨f__law_word_of, fd__law_word_of, G__law_word_of, g__law_word_of, k__law_word_of, b__law_word_of⟩ := D__law_word_of.ex
  refine ⟨⟨f, fd, F.ok sc__law_refused (fun vs H Q E h => ?_) (fun cdv A outer s H vs Q E hr h => ?_), gm, F.kp, F.binds fun _ _ _ _ _ _ us hl => match us, hl with | [_], _ => rfl⟩⟩
  · obtain ⟨L, rfl, _⟩ := h
    rfl
  · obtain ⟨L, rfl, hL, bad, q⟩ := h
    refine ⟨_, (pss_cons (ps_try_as (i := 1) rfl rfl sc__law_refused.nd rfl rfl ⟨rfl, by decide, .inl Z_ChainError.g⟩ takes0 (fun W pn xe tk _ => (pss_one (ps_expr (pe_callS G_read (hr.mono (by decide)) (by rfl) g_read k_read b_read (fun σ => passAt tk σ) (pa_cons (pv 0) pa_nil))))) (fun a oe cls d pn hz hf => (pss_one (ps_ret (pe_cmpR op_eq (pe_callP G__law_word_of (roomP hr (by decide)) (List.mem_cons_self ..) hz hf (by rfl) g__law_word_of k__law_word_of b__law_word_of (pa_cons (pv 1) pa_nil)) pe_str (nomark _))))))
    (pss_one (ps_ret pe_bl))), ?_⟩
    refine ⟨_, rfl, L, rfl, hL, fun _ H1 s1 => ?_, fun z => absurd z bad⟩
    refine ⟨true, PySem.W.exm_ref Z_ChainError.b Z_ChainError.d Z_ChainError.t Y_NoNote.up, (fun _ a na => ?_), (fun z => nomatch z)⟩
    refine ⟨_, rfl, rfl, C_NoNote, _, _, _, _, _, rfl, rfl, Y_NoNote, .inr (.inr (.inr ⟨rfl, rfl, rfl, rfl, rfl⟩)), fun H2 s2 => ?_⟩
    exact ⟨rfl, q _ (s1.trans s2)⟩
/-! #### the law -/
def spLaw (K : PySem.W.Frag) : Sp := fun vs H Q _ => ∃ (a : Addr) (ns : List Int), vs = [.ref a] ∧ SqL K H a (ns.map V.int) ∧ ns.length ≤ 63 ∧ ∀ H', Q (.bl true) H'
theorem two_at (k : Bool) : atI (Str.ofString "()").cps.toList (if k = true then 1 else 0) = some (sgn k) := by
  cases k <;> decide +kernel
theorem cut_fst (L : List Nat) (i : Nat) : cutS (txt L) none (some (i : Int)) = txt (L.take i) := by
  unfold cutS
  rw [HT.sIx_none, HT.sIx_nat]
  refine TL.ext_tl ?_
  show (L.drop 0).take (min i L.length - 0) = L.take i
  rw [List.drop_zero, Nat.sub_zero]
  by_cases h : i ≤ L.length
  · rw [Nat.min_eq_left h]
  · rw [Nat.min_eq_right (by omega), List.take_length, List.take_of_length_le (by omega)]
theorem cut_lst (L : List Nat) (i : Nat) (h : i ≤ L.length) : cutS (txt L) (some (i : Int)) none = txt (L.drop i) := by
  unfold cutS
  rw [HT.sIx_none, HT.sIx_nat]
  refine TL.ext_tl ?_
  show (L.drop (min i L.length)).take (L.length - min i L.length) = L.drop i
  rw [Nat.min_eq_left h, List.take_of_length_le (by rw [List.length_drop]; omega)]
theorem ok_law {C_NoNote : Addr} {f : Addr} {fd : FuncData} (F : Fun K "law" "law" s_law f fd) (B : Bt mg tM) (D__law_set_by : Def P w K mg base CX0 2 "_law_set_by" ["script", "at", "size"] (spSetBy K)) (D_read : Def P w K mg base (L2.CX P w) 1 "read" ["text"] (spRead C_NoNote)) (D__law_cell_at : Def P w K mg base CX0 1 "_law_cell_at" ["script", "k"] (spCellAt K)) (D__law_refused : Def P w K mg base CX0 2 "_law_refused" ["text"] spRefused) (D__law_is_set : Def P w K mg base CX0 2 "_law_is_set" ["found", "due"] (spIsSet K)) (D__law_whole : Def P w K mg base CX0 1 "_law_whole" ["found"] (spWhole K)) (D__law_odd_sign : Def P w K mg base CX0 1 "_law_odd_sign" ["cell"] spOdd) :
    FnOk P w K mg base CX0 3 f fd ["script"] (spLaw K) := by
  obtain ⟨f__law_set_by, fd__law_set_by, G__law_set_by, g__law_set_by, k__law_set_by, b__law_set_by⟩ := D__law_set_by.ex
  obtain ⟨f_read, fd_read, G_read, g_read, k_read, b_read⟩ := D_read.ex
  obtain ⟨f__law_cell_at, fd__law_cell_at, G__law_cell_at, g__law_cell_at, k__law_cell_at, b__law_cell_at⟩ := D__law_cell_at.ex
  obtain ⟨f__law_refused, fd__law_refused, G__law_refused, g__law_refused, k__law_refused, b__law_refused⟩ := D__law_refused.ex
  obtain ⟨f__law_is_set, fd__law_is_set, G__law_is_set, g__law_is_set, k__law_is_set, b__law_is_set⟩ := D__law_is_set.ex
  obtain ⟨f__law_whole, fd__law_whole, G__law_whole, g__law_whole, k__law_whole, b__law_whole⟩ := D__law_whole.ex
  obtain ⟨f__law_odd_sign, fd__law_odd_sign, G__law_odd_sign, g__law_odd_sign, k__law_odd_sign, b__law_odd_sign⟩ := D__law_odd_sign.ex
  refine F.ok sc_law (fun vs H Q E h => ?_) (fun cdv A outer s H vs Q E hr h => ?_)
  · obtain ⟨a, ns, rfl, _⟩ := h
    rfl
  · obtain ⟨a, ns, rfl, hS, hlen, q⟩ := h
    refine ⟨_, (pss_cons (ps_set (i := 1) sc_law.nd rfl (.inl rfl) (pe_op op_mod (pe_call G__law_cell_at (hr.mono (by decide)) (by rfl) g__law_cell_at k__law_cell_at b__law_cell_at .nil pass0 (pa_cons (pv 0) (pa_cons pe_int pa_nil))) pe_int))
    (pss_cons (ps_set (i := 2) sc_law.nd rfl (.inl rfl) (pe_call G__law_set_by (hr.mono (by decide)) (by rfl) g__law_set_by k__law_set_by b__law_set_by .nil pass0 (pa_cons (pv 0) (pa_cons pe_int (pa_cons (pv 1) pa_nil)))))
    (pss_cons (ps_set (i := 3) sc_law.nd rfl (.inl rfl) pe_str)
    (pss_cons (ps_for PassesOwn.never rfl (pi_range1 (by rfl) B.range (pa_cons (pv 1) pa_nil)) (pg_name (i := 4) sc_law.nd rfl (.inl rfl)) (pss_one (ps_set (i := 3) sc_law.nd rfl (.inl rfl) (pe_op op_add_str (pv 3) (pe_ix ix_str pe_str (pe_callTy call_int1 (by rfl) B.int (by decide +kernel) (pa_cons (pe_cmpR op_in_seq (pv 4) (pv 2) (by rfl)) pa_nil)) (fun _ _ => rfl))))))
    (Evl.pss_cut (ps_if (PW.pt (pw_and (pt_cmpR op_gt (pv 1) pe_int (nomark _)) (pw_and1 (pt_cmpR op_eq (pe_op op_mod (pe_call G__law_cell_at (hr.mono (by decide)) (by rfl) g__law_cell_at k__law_cell_at b__law_cell_at .nil pass0 (pa_cons (pv 0) (pa_cons pe_int pa_nil))) pe_int) pe_int (nomark _))))) (pss_cons (ps_set (i := 5) sc_law.nd rfl (.inl rfl) (pe_op op_mod (pe_call G__law_cell_at (hr.mono (by decide)) (by rfl) g__law_cell_at k__law_cell_at b__law_cell_at .nil pass0 (pa_cons (pv 0) (pa_cons pe_int pa_nil))) (pv 1)))
    (pss_one (ps_ret (pe_call G__law_refused (hr.mono (by decide)) (by rfl) g__law_refused k__law_refused b__law_refused .nil pass0 (pa_cons (pe_op op_add_str (pe_op op_add_str (pe_slice sl_str (pv 3) po_none (po_some (pv 5))) (pe_call G__law_odd_sign (hr.mono (by decide)) (by rfl) g__law_odd_sign k__law_odd_sign b__law_odd_sign .nil pass0 (pa_cons (pe_call G__law_cell_at (hr.mono (by decide)) (by rfl) g__law_cell_at k__law_cell_at b__law_cell_at .nil pass0 (pa_cons (pv 0) (pa_cons pe_int pa_nil))) pa_nil))) (pe_slice sl_str (pv 3) (po_some (pe_op op_add (pv 5) pe_int)) po_none)) pa_nil))))) pss_nil)
    (pss_cons (ps_if (pt_cmpR op_gt (pv 1) pe_int (nomark _)) (pss_one (ps_ret (pe_call G__law_refused (hr.mono (by decide)) (by rfl) g__law_refused k__law_refused b__law_refused .nil pass0 (pa_cons (pv 3) pa_nil)))) pss_nil)
    (pss_cons (ps_set (i := 6) sc_law.nd rfl (.inl rfl) (pe_call G_read (hr.mono (by decide)) (by rfl) g_read k_read b_read .nil passL (pa_cons (pv 3) pa_nil)))
    (pss_cons (ps_if (PW.pt (pw_or (pt_not (pt_val (pe_callB call_isi (by rfl) B.isinstance (by decide +kernel) (pa_cons (pv 6) (pa_cons (pe_bltn (v := .ty "tuple") (by rfl) B.tuple (by decide +kernel) rfl) pa_nil))))) (pw_or (pt_cmpR op_ne (pe_callB call_len_seq (by rfl) B.len (by decide +kernel) (pa_cons (pv 6) pa_nil)) pe_int (nomark _)) (pw_or1 (pt_not (pt_val (pe_call G__law_whole (hr.mono (by decide)) (by rfl) g__law_whole k__law_whole b__law_whole .nil pass0 (pa_cons (pe_ix ix_tup (pv 6) pe_int (fun _ _ => rfl)) pa_nil)))))))) (pss_one (ps_ret pe_bl)) pss_nil)
    (pss_one (ps_ret (pe_and (pe_cmpR op_eq (pe_ix ix_tup (pv 6) pe_int (fun _ _ => rfl)) (pv 1) (nomark _)) (pe_one (pe_call G__law_is_set (hr.mono (by decide)) (by rfl) g__law_is_set k__law_is_set b__law_is_set .nil pass0 (pa_cons (pe_ix ix_tup (pv 6) pe_int (fun _ _ => rfl)) (pa_cons (pv 2) pa_nil))))))))))))))), ?_⟩
    refine ⟨_, rfl, a, ns, 0, rfl, hS, _, _, rfl, rfl, (by show (0 : Int) < 46; decide), ?_⟩
    obtain ⟨n, hn, e⟩ : ∃ n : Nat, n ≤ 45 ∧ cellI ns 0 % 46 = (n : Int) := ⟨(cellI ns 0 % 46).toNat, by omega, by omega⟩
    show gName 1 (V.int (cellI ns 0 % 46)) _ _ _
    rw [e]
    refine ⟨_, rfl, _, rfl, a, ns, 1, n, rfl, by omega, hS, fun H1 m ms s1 nm hset hm => ?_⟩
    have hl := hset.len
    have en : ((n : Int)).toNat = n := rfl
    have hS1 := s1.seq hS
    -- text
    refine ⟨_, rfl, (n : Int), rfl, by omega, by omega, ?_⟩
    refine for_range (lo := 0) (n := ((n : Int)).toNat) (fun i σ H' => H1 = H' ∧ ∃ y, σ = [some (.ref a), some (.int (n : Int)), some (.ref m), some (.str (txt (signs i ms))), y, none, none]) ⟨rfl, none, by
      have e : Str.ofString "" = txt (signs 0 ms) := by
        show Str.ofString "" = txt []
        decide +kernel
      rw [← e]
      rfl⟩ ?_ ?_
    · rintro i σ H' hi ⟨rfl, y, rfl⟩
      have ei : ((0 : Int) + (i : Int)) = (i : Int) := Int.zero_add _
      refine ⟨_, rfl, _, rfl, _, rfl, m, _, rfl, .inl (SqL.of hm), rfl, flat_ints ms, .inr ⟨ms.contains (i : Int), ?_, Str.ofString "()", _, sgn (mem ms i), rfl, rfl, by decide +kernel, two_at _, _, _, rfl, rfl, ?_, rfl, ?_⟩⟩
      · show [V.bl (if false = true then _ else inV (V.int ((0 : Int) + (i : Int))) (ms.map V.int))] = _
        rw [if_neg Bool.false_ne_true, inV_ints, ei]
      · refine sz_le ?_
        show (signs i ms).length + 1 ≤ _
        rw [signs_len]
        omega
      · refine ⟨some (.int ((0 : Int) + (i : Int))), ?_⟩
        rw [signs_succ, ← txt_app]
        rfl
    rintro σ H' ⟨rfl, y, rfl⟩
    rw [en]
    have el := signs_len n ms
    have ec := closers_signs hset
    generalize hL : signs n ms = L at *
    have hz : (txt L).length ≤ sizeLine := sz_le (by rw [txt_len]; omega)
    refine ⟨fun σ' H' => H1 = H' ∧ σ' = [some (.ref a), some (.int (n : Int)), some (.ref m), some (.str (txt L)), y, none, none], ?_, ?_⟩
    · refine ⟨_, rfl, _, _, rfl, rfl, _, rfl, ?_⟩
      by_cases pos : (0 : Int) < (n : Int)
      · rw [decide_eq_true pos]
        refine iteT ⟨_, rfl, a, ns, 3, rfl, hS1, _, _, rfl, rfl, (by show (0 : Int) < 2; decide), rfl, _, rfl, ite2 (fun _ => ?_) (fun _ => ⟨rfl, rfl⟩)⟩
        refine ⟨_, rfl, a, ns, 4, rfl, hS1, _, rfl, _, _, rfl, rfl, pos, ?_⟩
        show gName 5 (V.int (cellI ns 4 % (n : Int))) _ _ _
        obtain ⟨j, hj, ej⟩ : ∃ j : Nat, j < n ∧ cellI ns 4 % (n : Int) = (j : Int) := by
          have h1 := Int.emod_nonneg (cellI ns 4) (b := (n : Int)) (by omega)
          have h2 := Int.emod_lt_of_pos (cellI ns 4) pos
          exact ⟨(cellI ns 4 % (n : Int)).toNat, by omega, by omega⟩
        rw [ej]
        refine ⟨_, rfl, _, rfl, (j : Int), rfl, txt L, rfl, hz, _, rfl, a, ns, 5, rfl, hS1, _, rfl, fun x x0 x1 => ?_⟩
        rw [cut_fst]
        refine ⟨_, _, rfl, rfl, sz_le (by rw [txt_len, txt_len, List.length_take]; show _ + 1 ≤ _; omega), ?_⟩
        rw [txt_app]
        refine ⟨_, rfl, _, rfl, _, _, rfl, rfl, ((j + 1 : Nat) : Int), rfl, txt L, rfl, hz, ?_⟩
        rw [cut_lst L (j + 1) (by omega)]
        refine ⟨_, _, rfl, rfl, sz_le (by rw [txt_len, txt_len, List.length_append, List.length_take, List.length_drop, List.length_singleton]; omega), ?_⟩
        rw [txt_app]
        refine ⟨_, rfl, by rw [List.length_append, List.length_append, List.length_take, List.length_drop, List.length_singleton]; omega, fun z => ?_, fun H2 s2 => q _⟩
        rcases z.2 x (List.mem_append_left _ (List.mem_append_right _ (List.mem_singleton.mpr rfl))) with w | w
        · exact x0 w
        · exact x1 w
      · rw [decide_eq_false pos]
        exact iteF (iteF ⟨rfl, rfl⟩)
    rintro σ' H' ⟨rfl, rfl⟩
    refine ⟨_, rfl, _, _, rfl, rfl, _, rfl, ?_⟩
    by_cases big : (40 : Int) < (n : Int)
    · rw [decide_eq_true big]
      refine iteT ⟨_, rfl, L, rfl, by omega, fun z => ?_, fun H2 s2 => q _⟩
      have := z.1
      omega
    rw [decide_eq_false big]
    refine iteF ?_
    have ok : okT L := by
      rw [← hL]
      exact okT_signs (by omega) ms
    refine ⟨_, rfl, L, rfl, by omega, fun z => absurd ok z, fun _ H4 p l R => ?_⟩
    have ht := R.tup
    have hl4 := R.lst
    rw [el] at ht
    rw [ec] at hl4
    have hm4 := R.same _ _ hm
    refine ⟨_, rfl, _, _, _, _, _, rfl, .ty "tuple", .base (.tup ht), kit_ty (a := "tuple") (b := "tuple") (r := true) (by decide +kernel), true, rfl, ?_⟩
    refine iteF ⟨_, rfl, p, _, rfl, .inr (SqT.of ht), rfl, _, rfl, ?_⟩
    refine iteF ⟨_, rfl, p, _, 0, _, rfl, rfl, SqT.of ht, atI_nat (j := 0) rfl, _, rfl, true, rfl, ?_⟩
    refine iteF ?_
    refine ⟨_, rfl, p, _, 0, _, rfl, rfl, SqT.of ht, atI_nat (j := 0) rfl, _, rfl, rfl, _, rfl, ?_⟩
    rw [decide_eq_true rfl]
    refine iteT ⟨_, rfl, p, _, 1, _, rfl, rfl, SqT.of ht, atI_nat (j := 1) rfl, _, rfl, l, m, _, _, rfl, hl4, SqL.of hm4, by omega, ?_⟩
    rw [decide_eq_true rfl]
    exact q _
end
/-! ### what the top has written; the end -/
theorem all_mk {l : PySem.W.OpenLaw} {w : World} {K : PySem.W.Frag} {h : Heap} {mg : Str → Option Value} {fa f0 f1 f2 f3 f4 f5 f6 f7 f8 C_ChainError C_NoMany C_NoSet C_NoNumber C_NoNote : Addr} {tM : Tok}
    {od0 an0 od1 an1 od2 an2 od3 an3 od4 an4 od5 an5 od6 an6 od7 an7 od8 an8 : Option Addr} {sl0 sl1 sl2 sl3 sl4 sl5 sl6 sl7 sl8 : Array (Option Value)} {oc0 kV0 dc0 pm0 cd0 ct0 oc1 kV1 dc1 pm1 cd1 ct1 oc2 kV2 dc2 pm2 cd2 ct2 oc3 kV3 dc3 pm3 cd3 ct3 oc4 kV4 dc4 pm4 cd4 ct4 oc5 kV5 dc5 pm5 cd5 ct5 oc6 kV6 dc6 pm6 cd6 ct6 oc7 kV7 dc7 pm7 cd7 ct7 oc8 kV8 dc8 pm8 cd8 ct8 : Value}
    (X : K.In h) (G : h.Ns mainGlobals mg) (hfa : mg "law" = some (.ref fa))
    (xn0 : PySem.W.nsIn K mainGlobals "NoNote" = some (some (.ref C_NoNote)))
    (xx0 : PySem.W.excIn K C_NoNote [.type "ValueError", .type "Exception", .type "BaseException", .type "object"] "ValueError.__new__" = true)
    (xk0 : PySem.W.keepIn K (.ref C_NoNote) = true)
    (xb0 : PySem.W.subIn K (.ref C_NoNote) (.type "BaseException") = some true)
    (xt0 : PySem.W.typeIn K (.ref C_NoNote) = some (.type "type"))
    (zn_ChainError : PySem.W.nsIn K mainGlobals "ChainError" = some (some (.ref C_ChainError)))
    (zd_ChainError : PySem.W.hasDictIn K C_ChainError = true)
    (zt_ChainError : PySem.W.typeIn K (.ref C_ChainError) = some (.type "type"))
    (zb_ChainError : PySem.W.subIn K (.ref C_ChainError) (.type "BaseException") = some true)
    (zn_NoMany : PySem.W.nsIn K mainGlobals "NoMany" = some (some (.ref C_NoMany)))
    (zd_NoMany : PySem.W.hasDictIn K C_NoMany = true)
    (zt_NoMany : PySem.W.typeIn K (.ref C_NoMany) = some (.type "type"))
    (zb_NoMany : PySem.W.subIn K (.ref C_NoMany) (.type "BaseException") = some true)
    (zn_NoSet : PySem.W.nsIn K mainGlobals "NoSet" = some (some (.ref C_NoSet)))
    (zd_NoSet : PySem.W.hasDictIn K C_NoSet = true)
    (zt_NoSet : PySem.W.typeIn K (.ref C_NoSet) = some (.type "type"))
    (zb_NoSet : PySem.W.subIn K (.ref C_NoSet) (.type "BaseException") = some true)
    (zn_NoNumber : PySem.W.nsIn K mainGlobals "NoNumber" = some (some (.ref C_NoNumber)))
    (zd_NoNumber : PySem.W.hasDictIn K C_NoNumber = true)
    (zt_NoNumber : PySem.W.typeIn K (.ref C_NoNumber) = some (.type "type"))
    (zb_NoNumber : PySem.W.subIn K (.ref C_NoNumber) (.type "BaseException") = some true)
    (zn_NoNote : PySem.W.nsIn K mainGlobals "NoNote" = some (some (.ref C_NoNote)))
    (zd_NoNote : PySem.W.hasDictIn K C_NoNote = true)
    (zt_NoNote : PySem.W.typeIn K (.ref C_NoNote) = some (.type "type"))
    (zb_NoNote : PySem.W.subIn K (.ref C_NoNote) (.type "BaseException") = some true)
    (yn : PySem.W.specialIn K (.builtin "object.__class__") "__get__" = some (some (.builtin "getset_descriptor.__get__")))
    (yt : PySem.W.takesIn K (.builtin "object.__class__") = some true)
    (yg_NoNote : PySem.W.findIn K (.ref C_NoNote) "__getattribute__" = some (some (.builtin "BaseException.__getattribute__")))
    (yk_NoNote : PySem.W.findIn K (.ref C_NoNote) "__getattr__" = some none)
    (ya_NoNote : PySem.W.findIn K (.ref C_NoNote) "__class__" = some (some (.builtin "object.__class__")))
    (ym_NoNote : PySem.W.mroIn K C_NoNote (.type "object") = some true)
    (yv_NoNote : PySem.W.subIn K (.ref C_NoNote) (.type "ValueError") = some true)
    (ys_NoNote_ChainError : PySem.W.subIn K (.ref C_NoNote) (.ref C_ChainError) = some true)
    (ys_NoNote_NoMany : PySem.W.subIn K (.ref C_NoNote) (.ref C_NoMany) = some false)
    (ys_NoNote_NoSet : PySem.W.subIn K (.ref C_NoNote) (.ref C_NoSet) = some false)
    (ys_NoNote_NoNumber : PySem.W.subIn K (.ref C_NoNote) (.ref C_NoNumber) = some false)
    (ys_NoNote_NoNote : PySem.W.subIn K (.ref C_NoNote) (.ref C_NoNote) = some true)
    (a0 : PySem.W.nsIn K mainGlobals "read" = some (some (.ref f0)))
    (l0 : K.lookup f0 = some ⟨oc0, od0, .func (PySem.W.fnOf "read" "read" (defArgs s_read) (defBody s_read) (defScope s_read) .none kV0 dc0 pm0 an0 cd0 ct0), sl0⟩)
    (c0 : PySem.W.codeIn K cd0 "read" = true)
    (k0 : PySem.W.keepIn K (.ref f0) = true)
    (a1 : PySem.W.nsIn K mainGlobals "_law_cell_at" = some (some (.ref f1)))
    (l1 : K.lookup f1 = some ⟨oc1, od1, .func (PySem.W.fnOf "_law_cell_at" "_law_cell_at" (defArgs s__law_cell_at) (defBody s__law_cell_at) (defScope s__law_cell_at) .none kV1 dc1 pm1 an1 cd1 ct1), sl1⟩)
    (c1 : PySem.W.codeIn K cd1 "_law_cell_at" = true)
    (k1 : PySem.W.keepIn K (.ref f1) = true)
    (a2 : PySem.W.nsIn K mainGlobals "_law_whole" = some (some (.ref f2)))
    (l2 : K.lookup f2 = some ⟨oc2, od2, .func (PySem.W.fnOf "_law_whole" "_law_whole" (defArgs s__law_whole) (defBody s__law_whole) (defScope s__law_whole) .none kV2 dc2 pm2 an2 cd2 ct2), sl2⟩)
    (c2 : PySem.W.codeIn K cd2 "_law_whole" = true)
    (k2 : PySem.W.keepIn K (.ref f2) = true)
    (a3 : PySem.W.nsIn K mainGlobals "_law_set_by" = some (some (.ref f3)))
    (l3 : K.lookup f3 = some ⟨oc3, od3, .func (PySem.W.fnOf "_law_set_by" "_law_set_by" (defArgs s__law_set_by) (defBody s__law_set_by) (defScope s__law_set_by) .none kV3 dc3 pm3 an3 cd3 ct3), sl3⟩)
    (c3 : PySem.W.codeIn K cd3 "_law_set_by" = true)
    (k3 : PySem.W.keepIn K (.ref f3) = true)
    (a4 : PySem.W.nsIn K mainGlobals "_law_is_set" = some (some (.ref f4)))
    (l4 : K.lookup f4 = some ⟨oc4, od4, .func (PySem.W.fnOf "_law_is_set" "_law_is_set" (defArgs s__law_is_set) (defBody s__law_is_set) (defScope s__law_is_set) .none kV4 dc4 pm4 an4 cd4 ct4), sl4⟩)
    (c4 : PySem.W.codeIn K cd4 "_law_is_set" = true)
    (k4 : PySem.W.keepIn K (.ref f4) = true)
    (a5 : PySem.W.nsIn K mainGlobals "_law_word_of" = some (some (.ref f5)))
    (l5 : K.lookup f5 = some ⟨oc5, od5, .func (PySem.W.fnOf "_law_word_of" "_law_word_of" (defArgs s__law_word_of) (defBody s__law_word_of) (defScope s__law_word_of) .none kV5 dc5 pm5 an5 cd5 ct5), sl5⟩)
    (c5 : PySem.W.codeIn K cd5 "_law_word_of" = true)
    (k5 : PySem.W.keepIn K (.ref f5) = true)
    (a6 : PySem.W.nsIn K mainGlobals "_law_odd_sign" = some (some (.ref f6)))
    (l6 : K.lookup f6 = some ⟨oc6, od6, .func (PySem.W.fnOf "_law_odd_sign" "_law_odd_sign" (defArgs s__law_odd_sign) (defBody s__law_odd_sign) (defScope s__law_odd_sign) .none kV6 dc6 pm6 an6 cd6 ct6), sl6⟩)
    (c6 : PySem.W.codeIn K cd6 "_law_odd_sign" = true)
    (k6 : PySem.W.keepIn K (.ref f6) = true)
    (a7 : PySem.W.nsIn K mainGlobals "_law_refused" = some (some (.ref f7)))
    (l7 : K.lookup f7 = some ⟨oc7, od7, .func (PySem.W.fnOf "_law_refused" "_law_refused" (defArgs s__law_refused) (defBody s__law_refused) (defScope s__law_refused) .none kV7 dc7 pm7 an7 cd7 ct7), sl7⟩)
    (c7 : PySem.W.codeIn K cd7 "_law_refused" = true)
    (k7 : PySem.W.keepIn K (.ref f7) = true)
    (a8 : PySem.W.nsIn K mainGlobals "law" = some (some (.ref f8)))
    (l8 : K.lookup f8 = some ⟨oc8, od8, .func (PySem.W.fnOf "law" "law" (defArgs s_law) (defBody s_law) (defScope s_law) .none kV8 dc8 pm8 an8 cd8 ct8), sl8⟩)
    (c8 : PySem.W.codeIn K cd8 "law" = true)
    (k8 : PySem.W.keepIn K (.ref f8) = true)
    (zlen : PySem.W.nsIn K mainGlobals "len" = some none)
    (zrange : PySem.W.nsIn K mainGlobals "range" = some none)
    (zsorted : PySem.W.nsIn K mainGlobals "sorted" = some none)
    (zisinstance : PySem.W.nsIn K mainGlobals "isinstance" = some none)
    (zint : PySem.W.nsIn K mainGlobals "int" = some none)
    (zbool : PySem.W.nsIn K mainGlobals "bool" = some none)
    (zlist : PySem.W.nsIn K mainGlobals "list" = some none)
    (ztuple : PySem.W.nsIn K mainGlobals "tuple" = some none)
    (zstr : PySem.W.nsIn K mainGlobals "str" = some none)
    (zsum : PySem.W.nsIn K mainGlobals "sum" = some none)
    (zall : PySem.W.nsIn K mainGlobals "all" = some none)
    (zmin : PySem.W.nsIn K mainGlobals "min" = some none)
    (zmax : PySem.W.nsIn K mainGlobals "max" = some none)
    (zValueError : PySem.W.nsIn K mainGlobals "ValueError" = some none)
    (zMOST : PySem.W.nsIn K mainGlobals "MOST" = some (some (.int 40 tM))) :
    ∃ fd : FuncData, (∀ (s : Shared) (v : Value), BindsTo s fd ⟨[v], []⟩ [("script", v)]) ∧ ∀ base : Heap, K.In base → base.Ns mainGlobals mg → FnOk l.prog w K mg base CX0 3 fa fd ["script"] (spLaw K) := by
  have e := hfa.symm.trans (PySem.W.mg_of X G a8)
  cases e
  have B : Bt mg tM := ⟨PySem.W.mg_none_of X G zlen, PySem.W.mg_none_of X G zrange, PySem.W.mg_none_of X G zsorted, PySem.W.mg_none_of X G zisinstance, PySem.W.mg_none_of X G zint, PySem.W.mg_none_of X G zbool, PySem.W.mg_none_of X G zlist, PySem.W.mg_none_of X G ztuple, PySem.W.mg_none_of X G zstr, PySem.W.mg_none_of X G zsum, PySem.W.mg_none_of X G zall, PySem.W.mg_none_of X G zmin, PySem.W.mg_none_of X G zmax, PySem.W.mg_none_of X G zValueError, PySem.W.mg_of X G zMOST⟩
  have X_NoNote : XT K mg "NoNote" C_NoNote := ⟨PySem.W.mg_of X G xn0, xx0, xk0, xb0, xt0⟩
  have Z_ChainError : XC K mg "ChainError" C_ChainError := ⟨PySem.W.mg_of X G zn_ChainError, zd_ChainError, zt_ChainError, zb_ChainError⟩
  have Z_NoMany : XC K mg "NoMany" C_NoMany := ⟨PySem.W.mg_of X G zn_NoMany, zd_NoMany, zt_NoMany, zb_NoMany⟩
  have Z_NoSet : XC K mg "NoSet" C_NoSet := ⟨PySem.W.mg_of X G zn_NoSet, zd_NoSet, zt_NoSet, zb_NoSet⟩
  have Z_NoNumber : XC K mg "NoNumber" C_NoNumber := ⟨PySem.W.mg_of X G zn_NoNumber, zd_NoNumber, zt_NoNumber, zb_NoNumber⟩
  have Z_NoNote : XC K mg "NoNote" C_NoNote := ⟨PySem.W.mg_of X G zn_NoNote, zd_NoNote, zt_NoNote, zb_NoNote⟩
  have Y_NoNote : XK K C_NoNote C_ChainError C_NoMany C_NoSet C_NoNumber C_NoNote false false false true := ⟨⟨yg_NoNote, yk_NoNote, zb_NoNote, zd_NoNote, ya_NoNote, yn, yt, ym_NoNote⟩, yv_NoNote, ys_NoNote_NoNote, ys_NoNote_ChainError, ys_NoNote_NoMany, ys_NoNote_NoSet, ys_NoNote_NoNumber, ys_NoNote_NoNote⟩
  have A_read : At K mg "read" s_read := ⟨f0, _, fun_mk (st := s_read) l0 c0 k0, PySem.W.mg_of X G a0⟩
  have A__law_cell_at : At K mg "_law_cell_at" s__law_cell_at := ⟨f1, _, fun_mk (st := s__law_cell_at) l1 c1 k1, PySem.W.mg_of X G a1⟩
  have A__law_whole : At K mg "_law_whole" s__law_whole := ⟨f2, _, fun_mk (st := s__law_whole) l2 c2 k2, PySem.W.mg_of X G a2⟩
  have A__law_set_by : At K mg "_law_set_by" s__law_set_by := ⟨f3, _, fun_mk (st := s__law_set_by) l3 c3 k3, PySem.W.mg_of X G a3⟩
  have A__law_is_set : At K mg "_law_is_set" s__law_is_set := ⟨f4, _, fun_mk (st := s__law_is_set) l4 c4 k4, PySem.W.mg_of X G a4⟩
  have A__law_word_of : At K mg "_law_word_of" s__law_word_of := ⟨f5, _, fun_mk (st := s__law_word_of) l5 c5 k5, PySem.W.mg_of X G a5⟩
  have A__law_odd_sign : At K mg "_law_odd_sign" s__law_odd_sign := ⟨f6, _, fun_mk (st := s__law_odd_sign) l6 c6 k6, PySem.W.mg_of X G a6⟩
  have A__law_refused : At K mg "_law_refused" s__law_refused := ⟨f7, _, fun_mk (st := s__law_refused) l7 c7 k7, PySem.W.mg_of X G a7⟩
  refine ⟨PySem.W.fnOf "law" "law" (defArgs s_law) (defBody s_law) (defScope s_law) .none kV8 dc8 pm8 an8 cd8 ct8, fun s v => .of_eq rfl, fun base _ _ => ?_⟩
  have D_read := ok_read (P := l.prog) (w := w) (base := base) A_read B X_NoNote
  have D__law_cell_at := ok__law_cell_at (P := l.prog) (w := w) (base := base) A__law_cell_at B
  have D__law_whole := ok__law_whole (P := l.prog) (w := w) (base := base) A__law_whole B
  have D__law_set_by := ok__law_set_by (P := l.prog) (w := w) (base := base) A__law_set_by B D__law_cell_at
  have D__law_is_set := ok__law_is_set (P := l.prog) (w := w) (base := base) A__law_is_set B D__law_whole
  have D__law_word_of := ok__law_word_of (C_ChainError := C_ChainError) (P := l.prog) (w := w) (base := base) A__law_word_of B Z_NoMany Z_NoSet Z_NoNumber Z_NoNote
  have D__law_odd_sign := ok__law_odd_sign (P := l.prog) (w := w) (base := base) A__law_odd_sign B
  have D__law_refused := ok__law_refused (P := l.prog) (w := w) (base := base) A__law_refused B Z_ChainError Y_NoNote D_read D__law_word_of
  exact ok_law (fun_mk (st := s_law) l8 c8 k8) B D__law_set_by D_read D__law_cell_at D__law_refused D__law_is_set D__law_whole D__law_odd_sign
end SC
open PySem PySem.W PyProof.Rows
set_option maxHeartbeats 0 in
theorem PySem.Challenge.cw_setchains_k19_read_holds : PySem.Challenge.rw_setchains_k19_read.Holds := by
  w_on; o_law; k_head; (case hw => w_witness2)
  k_fill
  refine L2.walk_of (l := PySem.Challenge.rw_setchains_k19_read) (n := 63) (k := 3) (x := "script") (CX := fun _ => L2.CX0) (sp := fun w => SC.spLaw _) rfl (by decide) rfl ⟨rfl, by decide, by decide⟩ (fun w h Y => PySem.W.kIn_of Y) ?F (fun _ _ a ns hl _ hS => ⟨a, ns, rfl, hS, hl, fun _ => rfl⟩) (fun _ _ _ _ _ h => h)
  case F =>
    intro w mg fa h KX G hmg
    refine' SC.all_mk KX G hmg ?xn0 ?xx0 ?xk0 ?xb0 ?xt0 ?zn_ChainError ?zd_ChainError ?zt_ChainError ?zb_ChainError ?zn_NoMany ?zd_NoMany ?zt_NoMany ?zb_NoMany ?zn_NoSet ?zd_NoSet ?zt_NoSet ?zb_NoSet ?zn_NoNumber ?zd_NoNumber ?zt_NoNumber ?zb_NoNumber ?zn_NoNote ?zd_NoNote ?zt_NoNote ?zb_NoNote ?yn ?yt ?yg_NoNote ?yk_NoNote ?ya_NoNote ?ym_NoNote ?yv_NoNote ?ys_NoNote_ChainError ?ys_NoNote_NoMany ?ys_NoNote_NoSet ?ys_NoNote_NoNumber ?ys_NoNote_NoNote ?a0 ?l0 ?c0 ?k0 ?a1 ?l1 ?c1 ?k1 ?a2 ?l2 ?c2 ?k2 ?a3 ?l3 ?c3 ?k3 ?a4 ?l4 ?c4 ?k4 ?a5 ?l5 ?c5 ?k5 ?a6 ?l6 ?c6 ?k6 ?a7 ?l7 ?c7 ?k7 ?a8 ?l8 ?c8 ?k8 ?zlen ?zrange ?zsorted ?zisinstance ?zint ?zbool ?zlist ?ztuple ?zstr ?zsum ?zall ?zmin ?zmax ?zValueError ?zMOST
    (case xn0 => k_is)
    (case xx0 => k_exc)
    (case xk0 => k_is)
    (case xb0 => k_is)
    (case xt0 => k_is)
    (case zn_ChainError => k_is)
    (case zd_ChainError => k_is)
    (case zt_ChainError => k_is)
    (case zb_ChainError => k_is)
    (case zn_NoMany => k_is)
    (case zd_NoMany => k_is)
    (case zt_NoMany => k_is)
    (case zb_NoMany => k_is)
    (case zn_NoSet => k_is)
    (case zd_NoSet => k_is)
    (case zt_NoSet => k_is)
    (case zb_NoSet => k_is)
    (case zn_NoNumber => k_is)
    (case zd_NoNumber => k_is)
    (case zt_NoNumber => k_is)
    (case zb_NoNumber => k_is)
    (case zn_NoNote => k_is)
    (case zd_NoNote => k_is)
    (case zt_NoNote => k_is)
    (case zb_NoNote => k_is)
    (case yn => k_is)
    (case yt => k_is)
    (case yg_NoNote => k_is)
    (case yk_NoNote => k_is)
    (case ya_NoNote => k_is)
    (case ym_NoNote => k_is)
    (case yv_NoNote => k_is)
    (case ys_NoNote_ChainError => k_is)
    (case ys_NoNote_NoMany => k_is)
    (case ys_NoNote_NoSet => k_is)
    (case ys_NoNote_NoNumber => k_is)
    (case ys_NoNote_NoNote => k_is)
    (case a0 => k_is)
    (case l0 => k_is)
    (case c0 => k_is)
    (case k0 => k_is)
    (case a1 => k_is)
    (case l1 => k_is)
    (case c1 => k_is)
    (case k1 => k_is)
    (case a2 => k_is)
    (case l2 => k_is)
    (case c2 => k_is)
    (case k2 => k_is)
    (case a3 => k_is)
    (case l3 => k_is)
    (case c3 => k_is)
    (case k3 => k_is)
    (case a4 => k_is)
    (case l4 => k_is)
    (case c4 => k_is)
    (case k4 => k_is)
    (case a5 => k_is)
    (case l5 => k_is)
    (case c5 => k_is)
    (case k5 => k_is)
    (case a6 => k_is)
    (case l6 => k_is)
    (case c6 => k_is)
    (case k6 => k_is)
    (case a7 => k_is)
    (case l7 => k_is)
    (case c7 => k_is)
    (case k7 => k_is)
    (case a8 => k_is)
    (case l8 => k_is)
    (case c8 => k_is)
    (case k8 => k_is)
    (case zlen => k_is)
    (case zrange => k_is)
    (case zsorted => k_is)
    (case zisinstance => k_is)
    (case zint => k_is)
    (case zbool => k_is)
    (case zlist => k_is)
    (case ztuple => k_is)
    (case zstr => k_is)
    (case zsum => k_is)
    (case zall => k_is)
    (case zmin => k_is)
    (case zmax => k_is)
    (case zValueError => k_is)
    (case zMOST => k_is)
