import PyProof.Rows.All
import Wide.All
import OpenK.AllK
import Wide.FinOn
import HandS.ForMost
import HandS.ForExc
import HandS.IsInst
import HandS.Deep
import HandS.SortInts
import HandS.SortRule
import HandS.Wide
import HandS.Evl
import HandS.TupLen
import PySem.Challenge.RW_setchains_k05_whole_one_chain
set_option Elab.async false
set_option linter.all false
set_option maxRecDepth 100000
set_option maxHeartbeats 4000000
set_option linter.all false
namespace SC
/-! ### lists -/
/-- rising -/
abbrev Up (l : List Int) : Prop := l.Pairwise (· < ·)
def irange (n : Nat) : List Int := (List.range n).map fun i : Nat => (i : Int)
theorem irange_succ (n : Nat) : irange (n + 1) = irange n ++ [(n : Int)] := by
  unfold irange
  rw [List.range_succ, List.map_append]
  rfl
theorem irange_len (n : Nat) : (irange n).length = n := by simp [irange]
theorem mem_irange {n : Nat} {x : Int} : x ∈ irange n ↔ 0 ≤ x ∧ x < n := by
  unfold irange
  rw [List.mem_map]
  constructor
  · rintro ⟨i, hi, rfl⟩
    have := List.mem_range.mp hi
    omega
  · intro h
    exact ⟨x.toNat, List.mem_range.mpr (by omega), by omega⟩
theorem irange_up (n : Nat) : Up (irange n) := by
  induction n with
  | zero => exact List.Pairwise.nil
  | succ n ih =>
    rw [irange_succ]
    refine List.pairwise_append.mpr ⟨ih, List.pairwise_singleton _ _, fun a ha b hb => ?_⟩
    have := mem_irange.mp ha
    rw [List.mem_singleton] at hb
    omega
theorem irange_get {n i : Nat} (h : i < n) : (irange n)[i]? = some (i : Int) := by
  unfold irange
  rw [List.getElem?_map, List.getElem?_range h]
  rfl
theorem up_nodup {l : List Int} (h : Up l) : l.Nodup := h.imp fun h e => by omega
/-- rising lists of the same members are one -/
theorem up_ext : ∀ {l m : List Int}, Up l → Up m → (∀ x, x ∈ l ↔ x ∈ m) → l = m
  | [], [], _, _, _ => rfl
  | [], y :: m, _, _, h => absurd ((h y).mpr (List.mem_cons_self ..)) (by simp)
  | x :: l, [], _, _, h => absurd ((h x).mp (List.mem_cons_self ..)) (by simp)
  | x :: l, y :: m, hl, hm, h => by
    obtain ⟨hx, hl'⟩ := List.pairwise_cons.mp hl
    obtain ⟨hy, hm'⟩ := List.pairwise_cons.mp hm
    have e : x = y := by
      rcases List.mem_cons.mp ((h x).mp (List.mem_cons_self ..)) with e | e
      · exact e
      · rcases List.mem_cons.mp ((h y).mpr (List.mem_cons_self ..)) with q | q
        · exact q.symm
        · have := hx y q
          have := hy x e
          omega
    subst e
    have e2 : l = m := up_ext hl' hm' fun z => by
      constructor
      · intro hz
        rcases List.mem_cons.mp ((h z).mp (List.mem_cons_of_mem _ hz)) with q | q
        · have := hx z hz
          omega
        · exact q
      · intro hz
        rcases List.mem_cons.mp ((h z).mpr (List.mem_cons_of_mem _ hz)) with q | q
        · have := hy z hz
          omega
        · exact q
    rw [e2]
theorem up_filter {l : List Int} (h : Up l) (p : Int → Bool) : Up (l.filter p) := h.filter p
theorem up_take {l : List Int} (h : Up l) (j : Nat) : Up (l.take j) := h.sublist (List.take_sublist j l)
theorem up_drop {l : List Int} (h : Up l) (j : Nat) : Up (l.drop j) := h.sublist (List.drop_sublist j l)
/-- a set of so many things -/
structure IsSet (n : Nat) (ms : List Int) : Prop where
  up : Up ms
  lo : ∀ x ∈ ms, 0 ≤ x
  hi : ∀ x ∈ ms, x < n
theorem IsSet.eq {n : Nat} {ms : List Int} (h : IsSet n ms) : (irange n).filter (fun x => decide (x ∈ ms)) = ms := by
  refine up_ext (up_filter (irange_up n) _) h.up fun x => ?_
  rw [List.mem_filter, mem_irange]
  constructor
  · rintro ⟨_, q⟩
    exact of_decide_eq_true q
  · intro q
    exact ⟨⟨h.lo x q, h.hi x q⟩, decide_eq_true q⟩
theorem isSet_of {n : Nat} (p : Int → Bool) : IsSet n ((irange n).filter p) where
  up := up_filter (irange_up n) p
  lo := fun x h => (mem_irange.mp (List.mem_filter.mp h).1).1
  hi := fun x h => (mem_irange.mp (List.mem_filter.mp h).1).2
theorem IsSet.len {n : Nat} {ms : List Int} (h : IsSet n ms) : ms.length ≤ n := by
  have e := congrArg List.length h.eq
  have l := List.length_filter_le (fun x => decide (x ∈ ms)) (irange n)
  rw [irange_len] at l
  omega
theorem isSet_nil (n : Nat) : IsSet n [] := ⟨List.Pairwise.nil, (fun _ h => nomatch h), (fun _ h => nomatch h)⟩

/-! ### sorting -/
def insB {α : Type} (le : α → α → Bool) (x : α) : List α → List α
  | [] => [x]
  | y :: r => if le x y then x :: y :: r else y :: insB le x r
def sortB {α : Type} (le : α → α → Bool) : List α → List α
  | [] => []
  | x :: r => insB le x (sortB le r)
theorem insB_perm {α : Type} (le : α → α → Bool) (x : α) : ∀ l : List α, (insB le x l).Perm (x :: l)
  | [] => List.Perm.refl _
  | y :: r => by
    unfold insB
    split
    · exact List.Perm.refl _
    · exact ((insB_perm le x r).cons y).trans (List.Perm.swap x y r)
theorem sortB_perm {α : Type} (le : α → α → Bool) : ∀ l : List α, (sortB le l).Perm l
  | [] => List.Perm.refl _
  | x :: r => (insB_perm le x _).trans ((sortB_perm le r).cons x)
theorem insB_pw {α : Type} {le : α → α → Bool} (tot : ∀ a b, le a b = true ∨ le b a = true) (tr : ∀ a b c, le a b = true → le b c = true → le a c = true) (x : α) :
    ∀ l : List α, l.Pairwise (fun a b => le a b = true) → (insB le x l).Pairwise (fun a b => le a b = true)
  | [], _ => List.pairwise_singleton _ _
  | y :: r, h => by
    obtain ⟨h1, h2⟩ := List.pairwise_cons.mp h
    unfold insB
    split
    · rename_i hle
      refine List.pairwise_cons.mpr ⟨fun z hz => ?_, h⟩
      rcases List.mem_cons.mp hz with e | hz
      · rw [e]; exact hle
      · exact tr _ _ _ hle (h1 z hz)
    · rename_i hle
      refine List.pairwise_cons.mpr ⟨fun z hz => ?_, insB_pw tot tr x r h2⟩
      rcases List.mem_cons.mp ((insB_perm le x r).mem_iff.mp hz) with e | hz
      · rw [e]
        rcases tot x y with q | q
        · exact absurd q hle
        · exact q
      · exact h1 z hz
theorem sortB_pw {α : Type} {le : α → α → Bool} (tot : ∀ a b, le a b = true ∨ le b a = true) (tr : ∀ a b c, le a b = true → le b c = true → le a c = true) :
    ∀ l : List α, (sortB le l).Pairwise (fun a b => le a b = true)
  | [] => List.Pairwise.nil
  | x :: r => insB_pw tot tr x _ (sortB_pw tot tr r)
/-- sorted rearrangements are one -/
theorem pw_uniq {α : Type} {le : α → α → Bool} : ∀ {l m : List α}, (∀ a ∈ l, ∀ b ∈ l, le a b = true → le b a = true → a = b) → l.Pairwise (fun a b => le a b = true) → m.Pairwise (fun a b => le a b = true) → l.Perm m → l = m
  | [], m, _, _, _, p => (List.Perm.eq_nil p.symm).symm
  | x :: l, [], _, _, _, p => absurd p.length_eq (by simp)
  | x :: l, y :: m, an, hl, hm, p => by
    obtain ⟨hx, hl'⟩ := List.pairwise_cons.mp hl
    obtain ⟨hy, hm'⟩ := List.pairwise_cons.mp hm
    have e : x = y := by
      rcases List.mem_cons.mp (p.mem_iff.mp (List.mem_cons_self (a := x) (l := l))) with q | q
      · exact q
      · rcases List.mem_cons.mp (p.mem_iff.mpr (List.mem_cons_self (a := y) (l := m))) with r | r
        · exact r.symm
        · exact an x (List.mem_cons_self ..) y (List.mem_cons_of_mem _ r) (hx y r) (hy x q)
    subst e
    rw [pw_uniq (fun a ha b hb => an a (List.mem_cons_of_mem _ ha) b (List.mem_cons_of_mem _ hb)) hl' hm' p.cons_inv]
def leI (a b : Int) : Bool := decide (a ≤ b)
abbrev isort (l : List Int) : List Int := sortB leI l
theorem isort_pw (l : List Int) : (isort l).Pairwise (· ≤ ·) := by
  have h := sortB_pw (le := leI) (fun a b => by unfold leI; simp only [decide_eq_true_eq]; omega) (fun a b c => by unfold leI; simp only [decide_eq_true_eq]; omega) l
  exact h.imp fun {a b} h => of_decide_eq_true h
theorem isort_uniq {l m : List Int} (hl : l.Pairwise (· ≤ ·)) (p : l.Perm m) : l = isort m := by
  refine pw_uniq (le := leI) (fun a _ b _ h1 h2 => ?_) (hl.imp fun h => decide_eq_true h) ?_ (p.trans (sortB_perm leI m).symm)
  · have := of_decide_eq_true h1
    have := of_decide_eq_true h2
    omega
  · exact (isort_pw m).imp fun h => decide_eq_true h
theorem isort_mem {l : List Int} {x : Int} : x ∈ isort l ↔ x ∈ l := (sortB_perm leI l).mem_iff
theorem isort_len (l : List Int) : (isort l).length = l.length := (sortB_perm leI l).length_eq
theorem isort_up {l : List Int} (h : l.Nodup) : Up (isort l) := by
  have n : (isort l).Nodup := (sortB_perm leI l).nodup_iff.mpr h
  have p := isort_pw l
  generalize isort l = k at n p
  induction k with
  | nil => exact List.Pairwise.nil
  | cons x r ih =>
    obtain ⟨p1, p2⟩ := List.pairwise_cons.mp p
    obtain ⟨n1, n2⟩ := List.nodup_cons.mp n
    refine List.pairwise_cons.mpr ⟨fun y hy => ?_, ih n2 p2⟩
    have := p1 y hy
    have ne : x ≠ y := fun e => n1 (e ▸ hy)
    omega
/-- pairs by their first, then their second -/
def leP (a b : Int × Int) : Bool := decide (a.1 < b.1 ∨ a.1 = b.1 ∧ a.2 ≤ b.2)
abbrev psort (l : List (Int × Int)) : List (Int × Int) := sortB leP l
theorem psort_uniq {l m : List (Int × Int)} (hl : l.Pairwise (fun a b => leP a b = true)) (p : l.Perm m) : l = psort m := by
  refine pw_uniq (le := leP) (fun a _ b _ h1 h2 => ?_) hl ?_ (p.trans (sortB_perm leP m).symm)
  · have h1 := of_decide_eq_true h1
    have h2 := of_decide_eq_true h2
    obtain ⟨a1, a2⟩ := a
    obtain ⟨b1, b2⟩ := b
    simp only at h1 h2
    have e1 : a1 = b1 := by omega
    have e2 : a2 = b2 := by omega
    rw [e1, e2]
  · refine sortB_pw (fun a b => ?_) (fun a b c h1 h2 => ?_) m
    · unfold leP
      simp only [decide_eq_true_eq]
      omega
    · unfold leP at *
      simp only [decide_eq_true_eq] at *
      omega
theorem psort_mem {l : List (Int × Int)} {x : Int × Int} : x ∈ psort l ↔ x ∈ l := (sortB_perm leP l).mem_iff
theorem psort_len (l : List (Int × Int)) : (psort l).length = l.length := (sortB_perm leP l).length_eq
/-! ### the program's own look at a set -/
def setOk (m : Int) : Int → List Int → Bool
  | _, [] => true
  | b, x :: r => if x ≤ b ∨ m ≤ x then false else setOk m x r
theorem setOk_iff {m : Int} : ∀ {b : Int} {l : List Int}, setOk m b l = true ↔ Up l ∧ (∀ x ∈ l, b < x) ∧ ∀ x ∈ l, x < m
  | b, [] => by simp [setOk]
  | b, x :: r => by
    unfold setOk
    split
    · rename_i h
      constructor
      · intro z; cases z
      · rintro ⟨h1, h2, h3⟩
        have := h2 x (List.mem_cons_self ..)
        have := h3 x (List.mem_cons_self ..)
        omega
    · rename_i h
      rw [setOk_iff (b := x) (l := r)]
      constructor
      · rintro ⟨h1, h2, h3⟩
        refine ⟨List.pairwise_cons.mpr ⟨h2, h1⟩, fun y hy => ?_, fun y hy => ?_⟩
        · rcases List.mem_cons.mp hy with e | e
          · omega
          · have := h2 y e
            omega
        · rcases List.mem_cons.mp hy with e | e
          · omega
          · exact h3 y e
      · rintro ⟨h1, h2, h3⟩
        obtain ⟨h4, h5⟩ := List.pairwise_cons.mp h1
        exact ⟨h5, h4, fun y hy => h3 y (List.mem_cons_of_mem _ hy)⟩
theorem setOk_set {n : Nat} {ms : List Int} : setOk n (-1) ms = true ↔ IsSet n ms := by
  rw [setOk_iff]
  constructor
  · rintro ⟨h1, h2, h3⟩
    exact ⟨h1, fun x hx => by have := h2 x hx; omega, h3⟩
  · intro h
    exact ⟨h.up, fun x hx => by have := h.lo x hx; omega, h.hi⟩
end SC
namespace SC
/-! ### how many ways -/
/-- Pascal's numbers -/
def ch : Nat → Nat → Nat
  | _, 0 => 1
  | 0, _ + 1 => 0
  | n + 1, k + 1 => ch n k + ch n (k + 1)
theorem ch_zero (n : Nat) : ch n 0 = 1 := by cases n <;> rfl
theorem ch_gt : ∀ {n k : Nat}, n < k → ch n k = 0
  | 0, k + 1, _ => rfl
  | n + 1, k + 1, h => by
    show ch n k + ch n (k + 1) = 0
    rw [ch_gt (show n < k by omega), ch_gt (show n < k + 1 by omega)]
theorem ch_self : ∀ n : Nat, ch n n = 1
  | 0 => rfl
  | n + 1 => by
    show ch n n + ch n (n + 1) = 1
    rw [ch_self n, ch_gt (by omega)]
theorem ch_le : ∀ n k : Nat, ch n k ≤ 2 ^ n
  | n, 0 => by
    rw [ch_zero]
    exact Nat.one_le_two_pow
  | 0, k + 1 => by
    show 0 ≤ _
    omega
  | n + 1, k + 1 => by
    show ch n k + ch n (k + 1) ≤ 2 ^ (n + 1)
    have h1 := ch_le n k
    have h2 := ch_le n (k + 1)
    rw [Nat.pow_succ]
    omega
theorem ch_pos : ∀ {n k : Nat}, k ≤ n → 0 < ch n k
  | n, 0, _ => by
    rw [ch_zero]
    omega
  | n + 1, k + 1, h => by
    show 0 < ch n k + ch n (k + 1)
    have := ch_pos (show k ≤ n by omega)
    omega
/-- the next number of a row -/
theorem ch_next : ∀ n k : Nat, k ≤ n → ch n k * (n - k) = ch n (k + 1) * (k + 1)
  | 0, k, h => by
    have e : k = 0 := by omega
    subst e
    rfl
  | n + 1, 0, _ => by
    have h0 := ch_next n 0 (by omega)
    show 1 * (n + 1 - 0) = (ch n 0 + ch n 1) * 1
    rw [ch_zero] at h0 ⊢
    simp only [Nat.sub_zero, Nat.one_mul, Nat.zero_add, Nat.mul_one] at h0 ⊢
    omega
  | n + 1, k + 1, h => by
    show (ch n k + ch n (k + 1)) * (n + 1 - (k + 1)) = (ch n (k + 1) + ch n (k + 2)) * (k + 1 + 1)
    by_cases hk : k = n
    · subst hk
      rw [ch_self, ch_gt (show k < k + 1 by omega), ch_gt (show k < k + 2 by omega)]
      simp
    · have h1 := ch_next n k (by omega)
      have h2 := ch_next n (k + 1) (by omega)
      obtain ⟨d, hd⟩ : ∃ d, n = k + 1 + d := ⟨n - (k + 1), by omega⟩
      have e1 : n - k = d + 1 := by omega
      have e2 : n - (k + 1) = d := by omega
      have e3 : n + 1 - (k + 1) = d + 1 := by omega
      rw [e1] at h1
      rw [e2] at h2
      rw [e3]
      generalize ch n k = a at *
      generalize ch n (k + 1) = b at *
      generalize ch n (k + 2) = c at *
      have q1 : a * (d + 1) = b * (k + 1) := h1
      have q2 : b * d = c * (k + 1 + 1) := h2
      rw [Nat.add_mul, q1, Nat.add_mul, ← q2]
      have : b * (d + 1) = b * d + b := by rw [Nat.mul_add, Nat.mul_one]
      have : b * (k + 1 + 1) = b * (k + 1) + b := by rw [Nat.mul_add, Nat.mul_one]
      omega
theorem ch_div {n k : Nat} (h : k ≤ n) : ((ch n k : Int) * ((n : Int) - (k : Int))) / ((k : Int) + 1) = (ch n (k + 1) : Int) := by
  have e := ch_next n k h
  have e1 : ((n : Int) - (k : Int)) = ((n - k : Nat) : Int) := by omega
  have e2 : ((k : Int) + 1) = ((k + 1 : Nat) : Int) := by omega
  rw [e1, e2, ← Int.natCast_mul, ← Int.natCast_ediv, e, Nat.mul_div_cancel _ (by omega)]
/-- picks(total, some) -/
def picks (t s : Int) : Int := if s < 0 ∨ t < s then 0 else ch t.toNat s.toNat
theorem picks_nat (n k : Nat) : picks n k = ch n k := by
  unfold picks
  split
  · rename_i h
    rw [ch_gt (by omega)]
    rfl
  · rfl
/-- a row of Pascal's -/
def prow (k : Nat) : List Int := (List.range (k + 1)).map fun j => (ch k j : Int)
theorem prow_len (k : Nat) : (prow k).length = k + 1 := by simp [prow]
theorem prow_get {k j : Nat} (h : j ≤ k) : (prow k)[j]? = some (ch k j : Int) := by
  unfold prow
  rw [List.getElem?_map, List.getElem?_range (by omega)]
  rfl
theorem prow_next (k : Nat) : prow (k + 1) = [(1 : Int)] ++ (List.range k).map (fun j => (ch k j : Int) + (ch k (j + 1) : Int)) ++ [1] := by
  unfold prow
  rw [List.range_succ, List.map_append, List.range_succ_eq_map, List.map_cons, List.map_map]
  have e : ((fun j => (ch (k + 1) j : Int)) ∘ Nat.succ) = fun j => (ch k j : Int) + (ch k (j + 1) : Int) := by
    funext j
    show ((ch k j + ch k (j + 1) : Nat) : Int) = _
    omega
  rw [e, ch_zero]
  have e2 : (List.map (fun j => (ch (k + 1) j : Int)) [k + 1]) = [1] := by
    show [(ch (k + 1) (k + 1) : Int)] = [1]
    rw [ch_self]
    rfl
  rw [e2]
  rfl
end SC
namespace SC
/-! ### the machine of pairs: things gone through from nought on -/
structure S3 where
  prs : List (Int × Int)
  aln : List Int
  wt : List Int
/-- one thing: a member closes the last that waits, if any; another one waits -/
def stp (b : Bool) (t : Int) (s : S3) : S3 :=
  if b then
    match s.wt.getLast? with
    | some w => ⟨s.prs ++ [(w, t)], s.aln, s.wt.dropLast⟩
    | none => ⟨s.prs, s.aln ++ [t], s.wt⟩
  else ⟨s.prs, s.aln, s.wt ++ [t]⟩
def st (f : Int → Bool) : Nat → S3
  | 0 => ⟨[], [], []⟩
  | i + 1 => stp (f i) i (st f i)
theorem stp_no (t : Int) (s : S3) : stp false t s = ⟨s.prs, s.aln, s.wt ++ [t]⟩ := rfl
theorem stp_alone {t : Int} {s : S3} (h : s.wt = []) : stp true t s = ⟨s.prs, s.aln ++ [t], []⟩ := by
  unfold stp
  rw [h]
  rfl
theorem stp_pop {t w : Int} {s : S3} {r : List Int} (h : s.wt = r ++ [w]) : stp true t s = ⟨s.prs ++ [(w, t)], s.aln, r⟩ := by
  unfold stp
  rw [h]
  simp
theorem snoc_cases {α : Type} (l : List α) : l = [] ∨ ∃ r w, l = r ++ [w] := by
  cases e : l.getLast? with
  | none => exact .inl (List.getLast?_eq_none_iff.mp e)
  | some w =>
    refine .inr ⟨l.dropLast, w, ?_⟩
    have hn : l ≠ [] := fun z => by rw [z] at e; cases e
    have e2 := List.getLast?_eq_some_getLast hn
    rw [e] at e2
    rw [Option.some.inj e2]
    exact (List.dropLast_concat_getLast hn).symm
theorem st_congr {f g : Int → Bool} : ∀ {n : Nat}, (∀ i : Nat, i < n → f i = g i) → st f n = st g n
  | 0, _ => rfl
  | n + 1, h => by
    show stp (f n) n (st f n) = stp (g n) n (st g n)
    rw [h n (by omega), st_congr fun i hi => h i (by omega)]
def firsts (p : List (Int × Int)) : List Int := p.map (·.1)
def seconds (p : List (Int × Int)) : List Int := p.map (·.2)
theorem firsts_snoc (p : List (Int × Int)) (x : Int × Int) : firsts (p ++ [x]) = firsts p ++ [x.1] := by simp [firsts]
theorem seconds_snoc (p : List (Int × Int)) (x : Int × Int) : seconds (p ++ [x]) = seconds p ++ [x.2] := by simp [seconds]

/-- what holds behind i things -/
structure Ok (f : Int → Bool) (i : Nat) (s : S3) : Prop where
  wt : s.wt = (irange i).filter fun x => !f x && !(firsts s.prs).contains x
  aln : s.aln = (irange i).filter fun x => f x && !(seconds s.prs).contains x
  fst : ∀ p ∈ s.prs, 0 ≤ p.1 ∧ p.1 < p.2 ∧ p.2 < i ∧ f p.1 = false ∧ f p.2 = true
  nd1 : (firsts s.prs).Nodup
  nd2 : Up (seconds s.prs)
  sep : ∀ x ∈ s.aln, ∀ y ∈ s.wt, x < y
  sum : 2 * s.prs.length + s.aln.length + s.wt.length = i
theorem mem_firsts {p : List (Int × Int)} {x : Int} : x ∈ firsts p ↔ ∃ y, (x, y) ∈ p := by
  unfold firsts
  rw [List.mem_map]
  constructor
  · rintro ⟨⟨a, b⟩, h, rfl⟩
    exact ⟨b, h⟩
  · rintro ⟨y, h⟩
    exact ⟨(x, y), h, rfl⟩
theorem mem_seconds {p : List (Int × Int)} {x : Int} : x ∈ seconds p ↔ ∃ y, (y, x) ∈ p := by
  unfold seconds
  rw [List.mem_map]
  constructor
  · rintro ⟨⟨a, b⟩, h, rfl⟩
    exact ⟨a, h⟩
  · rintro ⟨y, h⟩
    exact ⟨(y, x), h, rfl⟩
theorem filter_congr' {α : Type} {p q : α → Bool} {l : List α} (h : ∀ x ∈ l, p x = q x) : l.filter p = l.filter q := List.filter_congr h
theorem up_last {r : List Int} {w : Int} (h : Up (r ++ [w])) : (∀ x ∈ r, x < w) ∧ Up r := by
  obtain ⟨h1, _, h3⟩ := List.pairwise_append.mp h
  exact ⟨fun x hx => h3 x hx w (List.mem_singleton.mpr rfl), h1⟩
theorem filter_ne_last {r : List Int} {w : Int} (h : Up (r ++ [w])) : (r ++ [w]).filter (fun x => x != w) = r := by
  obtain ⟨h1, _⟩ := up_last h
  rw [List.filter_append]
  have e1 : r.filter (fun x => x != w) = r := List.filter_eq_self.mpr fun x hx => by
    have := h1 x hx
    simp
    omega
  rw [e1]
  simp
theorem ok_st (f : Int → Bool) : ∀ i : Nat, Ok f i (st f i)
  | 0 => ⟨rfl, rfl, (fun p h => nomatch h), List.nodup_nil, List.Pairwise.nil, (fun x h => nomatch h), rfl⟩
  | i + 1 => by
    have o := ok_st f i
    show Ok f (i + 1) (stp (f i) i (st f i))
    generalize st f i = s at o
    obtain ⟨P, A, W⟩ := s
    obtain ⟨hW, hA, hF, n1, n2, sp, sm⟩ := o
    dsimp only at *
    have mi : ∀ x ∈ irange i, x ≠ (i : Int) := fun x hx e => by
      have := mem_irange.mp hx
      omega
    have bF : (firsts P).contains (i : Int) = false := by
      cases e : (firsts P).contains (i : Int) with
      | false => rfl
      | true =>
        obtain ⟨y, hy⟩ := mem_firsts.mp (List.contains_iff_mem.mp e)
        have := hF _ hy
        dsimp only at this
        omega
    have bS : (seconds P).contains (i : Int) = false := by
      cases e : (seconds P).contains (i : Int) with
      | false => rfl
      | true =>
        obtain ⟨y, hy⟩ := mem_seconds.mp (List.contains_iff_mem.mp e)
        have := hF _ hy
        dsimp only at this
        omega
    have upW : Up W := by
      rw [hW]
      exact up_filter (irange_up i) _
    have memW : ∀ x ∈ W, 0 ≤ x ∧ x < i ∧ f x = false ∧ x ∉ firsts P := fun x hx => by
      rw [hW] at hx
      obtain ⟨h1, h2⟩ := List.mem_filter.mp hx
      rw [Bool.and_eq_true, Bool.not_eq_true', Bool.not_eq_true'] at h2
      have := mem_irange.mp h1
      refine ⟨this.1, this.2, h2.1, fun z => ?_⟩
      have := List.contains_iff_mem.mpr z
      rw [h2.2] at this
      cases this
    have memA : ∀ x ∈ A, x < i := fun x hx => by
      rw [hA] at hx
      exact (mem_irange.mp (List.mem_filter.mp hx).1).2
    cases hf : f i with
    | false =>
      rw [stp_no]
      refine ⟨?_, ?_, fun p hp => ?_, n1, n2, fun x hx y hy => ?_, ?_⟩
      · dsimp only
        rw [irange_succ, List.filter_append, ← hW]
        congr 1
        rw [List.filter_cons, if_pos (by rw [hf, bF]; rfl)]
        rfl
      · dsimp only
        rw [irange_succ, List.filter_append, ← hA]
        rw [List.filter_cons, if_neg (by rw [hf]; simp)]
        simp
      · have := hF p hp
        exact ⟨this.1, this.2.1, by omega, this.2.2.2⟩
      · dsimp only at hx hy
        rcases List.mem_append.mp hy with hy | hy
        · exact sp x hx y hy
        · rw [List.mem_singleton] at hy
          have := memA x hx
          omega
      · dsimp only
        rw [List.length_append, List.length_singleton]
        omega
    | true =>
      rcases snoc_cases W with e | ⟨r, w, e⟩
      · subst e
        rw [stp_alone rfl]
        refine ⟨?_, ?_, fun p hp => ?_, n1, n2, fun x hx y hy => (nomatch hy), ?_⟩
        · dsimp only
          rw [irange_succ, List.filter_append, ← hW]
          rw [List.filter_cons, if_neg (by rw [hf]; simp)]
          rfl
        · dsimp only
          rw [irange_succ, List.filter_append, ← hA]
          congr 1
          rw [List.filter_cons, if_pos (by rw [hf, bS]; rfl)]
          rfl
        · have := hF p hp
          exact ⟨this.1, this.2.1, by omega, this.2.2.2⟩
        · dsimp only at sm ⊢
          rw [List.length_append, List.length_singleton]
          simp only [List.length_nil] at sm ⊢
          omega
      · subst e
        rw [stp_pop rfl]
        have hw := memW w (List.mem_append_right _ (List.mem_singleton.mpr rfl))
        refine ⟨?_, ?_, fun p hp => ?_, ?_, ?_, fun x hx y hy => sp x hx y (List.mem_append_left _ hy), ?_⟩
        · dsimp only
          rw [irange_succ, List.filter_append, firsts_snoc]
          rw [List.filter_cons, if_neg (by rw [hf]; simp), List.filter_nil, List.append_nil]
          have e1 : (irange i).filter (fun x => !f x && !(firsts P ++ [w]).contains x) = ((irange i).filter (fun x => !f x && !(firsts P).contains x)).filter (fun x => x != w) := by
            rw [List.filter_filter]
            refine List.filter_congr fun x hx => ?_
            simp only [List.contains_append, List.contains_cons, List.contains_nil, Bool.or_false]
            show _ = (!(x == w) && (!f x && !(firsts P).contains x))
            generalize f x = a
            generalize (firsts P).contains x = b
            generalize (x == w) = c
            cases a <;> cases b <;> cases c <;> rfl
          rw [e1, ← hW]
          exact (filter_ne_last upW).symm
        · dsimp only
          rw [irange_succ, List.filter_append, seconds_snoc]
          rw [List.filter_cons, if_neg (by simp [List.contains_append]), List.filter_nil, List.append_nil]
          rw [hA]
          refine List.filter_congr fun x hx => ?_
          have nx := mi x hx
          simp only [List.contains_append, List.contains_cons, List.contains_nil, Bool.or_false]
          have : (x == (i : Int)) = false := by simpa using nx
          rw [this, Bool.or_false]
        · dsimp only at hp
          rcases List.mem_append.mp hp with hp | hp
          · have := hF p hp
            exact ⟨this.1, this.2.1, by omega, this.2.2.2⟩
          · rw [List.mem_singleton] at hp
            subst hp
            exact ⟨hw.1, hw.2.1, by dsimp only; omega, hw.2.2.1, hf⟩
        · dsimp only
          rw [firsts_snoc]
          refine List.nodup_append.mpr ⟨n1, by simp, fun a ha b hb e => ?_⟩
          rw [List.mem_singleton] at hb
          subst hb
          exact hw.2.2.2 (e ▸ ha)
        · dsimp only
          rw [seconds_snoc]
          refine List.pairwise_append.mpr ⟨n2, List.pairwise_singleton _ _, fun a ha b hb => ?_⟩
          rw [List.mem_singleton] at hb
          obtain ⟨y, hy⟩ := mem_seconds.mp ha
          have := hF _ hy
          dsimp only at this hb
          omega
        · dsimp only at sm ⊢
          rw [List.length_append, List.length_singleton] at *
          omega
end SC
namespace SC
/-! ### the law's own pairs -/
def free (f : Int → Bool) (cl : List Int) (t : Int) : List Int := (irange t.toNat).filter fun k => !f k && !cl.contains k
def lstep (f : Int → Bool) (found : List (Int × Int)) (t : Int) : List (Int × Int) :=
  match (free f (firsts found) t).getLast? with
  | some w => found ++ [(w, t)]
  | none => found
def lpairs (f : Int → Bool) (ms : List Int) : List (Int × Int) := ms.foldl (lstep f) []
theorem lpairs_eq (f : Int → Bool) : ∀ n : Nat, lpairs f ((irange n).filter f) = (st f n).prs
  | 0 => rfl
  | n + 1 => by
    have o := ok_st f n
    have ih := lpairs_eq f n
    rw [irange_succ, List.filter_append]
    show _ = (stp (f n) n (st f n)).prs
    cases hf : f n with
    | false =>
      rw [List.filter_cons, if_neg (by rw [hf]; simp), List.filter_nil, List.append_nil, ih]
      rfl
    | true =>
      rw [List.filter_cons, if_pos hf, List.filter_nil]
      unfold lpairs at ih ⊢
      rw [List.foldl_append, ih]
      show lstep f (st f n).prs n = _
      unfold lstep
      have e : free f (firsts (st f n).prs) n = (st f n).wt := o.wt.symm
      rw [e]
      rcases snoc_cases (st f n).wt with q | ⟨r, w, q⟩
      · rw [stp_alone q, q]
        rfl
      · rw [stp_pop q, q, List.getLast?_concat]
/-- members by a list -/
def mem (ms : List Int) : Int → Bool := fun x => ms.contains x
theorem mem_true {ms : List Int} {x : Int} : mem ms x = true ↔ x ∈ ms := List.contains_iff_mem
theorem mem_false {ms : List Int} {x : Int} : mem ms x = false ↔ x ∉ ms := by
  cases h : mem ms x with
  | true => simp [mem_true.mp h]
  | false =>
    refine ⟨fun _ q => ?_, fun _ => rfl⟩
    rw [mem_true.mpr q] at h
    cases h
theorem IsSet.eqf {n : Nat} {ms : List Int} (h : IsSet n ms) : (irange n).filter (mem ms) = ms := by
  refine Eq.trans (List.filter_congr fun x _ => ?_) h.eq
  cases q : mem ms x with
  | true => exact (decide_eq_true (mem_true.mp q)).symm
  | false => exact (decide_eq_false (mem_false.mp q)).symm
/-- the machine's state behind all things -/
def fin (n : Nat) (ms : List Int) : S3 := st (mem ms) n
theorem law_pairs {n : Nat} {ms : List Int} (h : IsSet n ms) : lpairs (mem ms) ms = (fin n ms).prs := by
  have e := lpairs_eq (mem ms) n
  rw [h.eqf] at e
  exact e
/-- the law's loose members and loose others -/
def takenBy (ps : List (Int × Int)) (x : Int) : Bool := (firsts ps).contains x || (seconds ps).contains x
theorem law_alone {n : Nat} {ms : List Int} (h : IsSet n ms) : ms.filter (fun x => !takenBy (fin n ms).prs x) = (fin n ms).aln := by
  have o := ok_st (mem ms) n
  have e : (fin n ms).aln = _ := o.aln
  have e2 : ms.filter (fun x => !takenBy (fin n ms).prs x) = ((irange n).filter (mem ms)).filter (fun x => !takenBy (fin n ms).prs x) := by rw [h.eqf]
  rw [e, e2, List.filter_filter]
  refine List.filter_congr fun x _ => ?_
  unfold takenBy
  show (!((firsts (st (mem ms) n).prs).contains x || _) && mem ms x) = (mem ms x && _)
  cases q : mem ms x with
  | false => simp
  | true =>
    have : (firsts (st (mem ms) n).prs).contains x = false := by
      cases z : (firsts (st (mem ms) n).prs).contains x with
      | false => rfl
      | true =>
        obtain ⟨y, hy⟩ := mem_firsts.mp (List.contains_iff_mem.mp z)
        have := (o.fst _ hy).2.2.2.1
        dsimp only at this
        rw [q] at this
        cases this
    rw [this]
    simp
    rfl
theorem law_others {n : Nat} {ms : List Int} (h : IsSet n ms) : (irange n).filter (fun x => !takenBy (fin n ms).prs x && !mem ms x) = (fin n ms).wt := by
  have o := ok_st (mem ms) n
  have e : (fin n ms).wt = _ := o.wt
  rw [e]
  refine List.filter_congr fun x _ => ?_
  unfold takenBy
  show (!(_ || (seconds (st (mem ms) n).prs).contains x) && !mem ms x) = (!mem ms x && !_)
  cases q : mem ms x with
  | true => simp
  | false =>
    have : (seconds (st (mem ms) n).prs).contains x = false := by
      cases z : (seconds (st (mem ms) n).prs).contains x with
      | false => rfl
      | true =>
        obtain ⟨y, hy⟩ := mem_seconds.mp (List.contains_iff_mem.mp z)
        have := (o.fst _ hy).2.2.2.2
        dsimp only at this
        rw [q] at this
        cases this
    rw [this]
    simp
    rfl
theorem fin_aln_set {n : Nat} (ms : List Int) : IsSet n (fin n ms).aln := by
  have o : (fin n ms).aln = _ := (ok_st (mem ms) n).aln
  rw [o]
  exact isSet_of _
theorem fin_wt_set {n : Nat} (ms : List Int) : IsSet n (fin n ms).wt := by
  have o : (fin n ms).wt = _ := (ok_st (mem ms) n).wt
  rw [o]
  exact isSet_of _
end SC
namespace SC
/-! ### chains: the sets of the same pairs -/
theorem aln_mono (f : Int → Bool) (i : Nat) : ∀ d : Nat, (st f i).aln <+: (st f (i + d)).aln
  | 0 => List.prefix_refl _
  | d + 1 => by
    refine (aln_mono f i d).trans ?_
    show _ <+: (stp (f ((i + d : Nat) : Int)) ((i + d : Nat) : Int) (st f (i + d))).aln
    generalize st f (i + d) = s
    cases hf : f ((i + d : Nat) : Int) with
    | false => exact List.prefix_refl _
    | true =>
      rcases snoc_cases s.wt with q | ⟨r, w, q⟩
      · rw [stp_alone q]
        exact List.prefix_append _ _
      · rw [stp_pop q]
        exact List.prefix_refl _
theorem prs_mono (f : Int → Bool) (i : Nat) : ∀ d : Nat, (st f i).prs <+: (st f (i + d)).prs
  | 0 => List.prefix_refl _
  | d + 1 => by
    refine (prs_mono f i d).trans ?_
    show _ <+: (stp (f ((i + d : Nat) : Int)) ((i + d : Nat) : Int) (st f (i + d))).prs
    generalize st f (i + d) = s
    cases hf : f ((i + d : Nat) : Int) with
    | false => exact List.prefix_refl _
    | true =>
      rcases snoc_cases s.wt with q | ⟨r, w, q⟩
      · rw [stp_alone q]
        exact List.prefix_refl _
      · rw [stp_pop q]
        exact List.prefix_append _ _
theorem wt_lt {f : Int → Bool} {i : Nat} {x : Int} (h : x ∈ (st f i).wt) : 0 ≤ x ∧ x < i := by
  rw [(ok_st f i).wt] at h
  exact mem_irange.mp (List.mem_filter.mp h).1
theorem wt_nd (f : Int → Bool) (i : Nat) : (st f i).wt.Nodup := by
  rw [(ok_st f i).wt]
  exact up_nodup (up_filter (irange_up i) _)
/-- what waits below one that waits to the end waits to the end -/
theorem stk {f : Int → Bool} {i : Nat} {U : List Int} {x : Int} : ∀ d : Nat, (U ++ [x]) <+: (st f i).wt → x ∈ (st f (i + d)).wt → (U ++ [x]) <+: (st f (i + d)).wt
  | 0, h, _ => h
  | d + 1, h, hx => by
    have xi : x < i := (wt_lt (h.subset (List.mem_append_right _ (List.mem_singleton.mpr rfl)))).2
    have ih := stk (f := f) (i := i) (U := U) (x := x) d h
    have nd := wt_nd f (i + d)
    have e : st f (i + (d + 1)) = stp (f ((i + d : Nat) : Int)) ((i + d : Nat) : Int) (st f (i + d)) := rfl
    rw [e] at hx ⊢
    generalize st f (i + d) = s at *
    cases hf : f ((i + d : Nat) : Int) with
    | false =>
      rw [hf, stp_no] at hx
      rw [stp_no]
      dsimp only at *
      rcases List.mem_append.mp hx with hx | hx
      · exact (ih hx).trans (List.prefix_append _ _)
      · rw [List.mem_singleton] at hx
        omega
    | true =>
      rw [hf] at hx
      rcases snoc_cases s.wt with q | ⟨r, w, q⟩
      · rw [stp_alone q] at hx
        exact nomatch hx
      · rw [stp_pop q] at hx ⊢
        dsimp only at *
        rw [q] at ih nd
        obtain ⟨V, hV⟩ := ih (List.mem_append_left _ hx)
        rcases snoc_cases V with z | ⟨V', v, z⟩
        · subst z
          rw [List.append_nil] at hV
          have e2 := List.append_inj_right' hV rfl
          have e3 : x = w := by simpa using e2
          subst e3
          have := (List.nodup_append.mp nd).2.2 x hx x (List.mem_singleton.mpr rfl)
          exact absurd rfl this
        · subst z
          rw [← List.append_assoc] at hV
          exact ⟨V', List.append_inj_left' hV rfl⟩
/-- where a thing stands in a rising list -/
theorem up_split {L : List Int} (h : Up L) {x : Int} (hx : x ∈ L) : ∃ b, L = L.filter (fun y => decide (y < x)) ++ x :: b := by
  obtain ⟨a, b, e⟩ := List.append_of_mem hx
  refine ⟨b, ?_⟩
  have ha : L.filter (fun y => decide (y < x)) = a := by
    rw [e] at h
    obtain ⟨h1, h2, h3⟩ := List.pairwise_append.mp h
    obtain ⟨h4, h5⟩ := List.pairwise_cons.mp h2
    rw [e, List.filter_append]
    have e1 : a.filter (fun y => decide (y < x)) = a := List.filter_eq_self.mpr fun y hy => decide_eq_true (h3 y hy x (List.mem_cons_self ..))
    have e2 : (x :: b).filter (fun y => decide (y < x)) = [] := List.filter_eq_nil_iff.mpr fun y hy => by
      rcases List.mem_cons.mp hy with q | q
      · rw [q]; simp
      · have := h4 y q
        simp
        omega
    rw [e1, e2, List.append_nil]
  rw [ha]
  exact e
theorem up_take_mem {L : List Int} (h : Up L) {x : Int} (hx : x ∈ L) (j : Nat) : x ∈ L.take j ↔ (L.filter (fun y => decide (y < x))).length < j := by
  obtain ⟨b, e⟩ := up_split h hx
  generalize L.filter (fun y => decide (y < x)) = a at e
  subst e
  rw [List.take_append, List.mem_append]
  obtain ⟨h1, h2, h3⟩ := List.pairwise_append.mp h
  constructor
  · rintro (q | q)
    · have := h3 x (List.mem_of_mem_take q) x (List.mem_cons_self ..)
      omega
    · by_cases z : a.length < j
      · exact z
      · rw [show j - a.length = 0 by omega] at q
        exact nomatch q
  · intro z
    refine .inr ?_
    obtain ⟨d, hd⟩ : ∃ d, j - a.length = d + 1 := ⟨j - a.length - 1, by omega⟩
    rw [hd]
    exact List.mem_cons_self ..
theorem up_filter_succ {L : List Int} (h : Up L) {i : Nat} (hi : (i : Int) ∈ L) : L.filter (fun y => decide (y < ((i + 1 : Nat) : Int))) = L.filter (fun y => decide (y < (i : Int))) ++ [(i : Int)] := by
  obtain ⟨b, e⟩ := up_split h hi
  have up := h
  rw [e] at up
  obtain ⟨h1, h2, h3⟩ := List.pairwise_append.mp up
  obtain ⟨h4, h5⟩ := List.pairwise_cons.mp h2
  generalize ha : L.filter (fun y => decide (y < (i : Int))) = a at *
  subst e
  rw [List.filter_append]
  have e1 : a.filter (fun y => decide (y < ((i + 1 : Nat) : Int))) = a := List.filter_eq_self.mpr fun y hy => decide_eq_true (by have := h3 y hy i (List.mem_cons_self ..); omega)
  have e2 : ((i : Int) :: b).filter (fun y => decide (y < ((i + 1 : Nat) : Int))) = [(i : Int)] := by
    rw [List.filter_cons, if_pos (decide_eq_true (by omega)), List.filter_eq_nil_iff.mpr fun y hy => by have := h4 y hy; simp; omega]
  rw [e1, e2]
theorem filter_succ_no {L : List Int} {i : Nat} (hi : (i : Int) ∉ L) : L.filter (fun y => decide (y < ((i + 1 : Nat) : Int))) = L.filter (fun y => decide (y < (i : Int))) := by
  refine List.filter_congr fun y hy => ?_
  have ne : y ≠ (i : Int) := fun e => hi (e ▸ hy)
  by_cases z : y < (i : Int)
  · rw [decide_eq_true z, decide_eq_true (by omega)]
  · rw [decide_eq_false z, decide_eq_false (by omega)]
/-- all loose things -/
def lse (s : S3) : List Int := s.aln ++ s.wt
theorem lse_up (f : Int → Bool) (n : Nat) : Up (lse (st f n)) := by
  have o := ok_st f n
  refine List.pairwise_append.mpr ⟨?_, ?_, o.sep⟩
  · rw [o.aln]; exact up_filter (irange_up n) _
  · rw [o.wt]; exact up_filter (irange_up n) _
theorem aln_iff {f : Int → Bool} {n : Nat} {x : Int} : x ∈ (st f n).aln ↔ (0 ≤ x ∧ x < n) ∧ f x = true ∧ x ∉ seconds (st f n).prs := by
  rw [(ok_st f n).aln, List.mem_filter, mem_irange, Bool.and_eq_true, Bool.not_eq_true']
  rw [show ((seconds (st f n).prs).contains x = false ↔ x ∉ seconds (st f n).prs) from mem_false]
theorem wt_iff {f : Int → Bool} {n : Nat} {x : Int} : x ∈ (st f n).wt ↔ (0 ≤ x ∧ x < n) ∧ f x = false ∧ x ∉ firsts (st f n).prs := by
  rw [(ok_st f n).wt, List.mem_filter, mem_irange, Bool.and_eq_true, Bool.not_eq_true', Bool.not_eq_true']
  rw [show ((firsts (st f n).prs).contains x = false ↔ x ∉ firsts (st f n).prs) from mem_false]
theorem firsts_sub {p q : List (Int × Int)} (h : p <+: q) {x : Int} (hx : x ∈ firsts p) : x ∈ firsts q := by
  obtain ⟨y, hy⟩ := mem_firsts.mp hx
  exact mem_firsts.mpr ⟨y, h.subset hy⟩
theorem seconds_sub {p q : List (Int × Int)} (h : p <+: q) {x : Int} (hx : x ∈ seconds p) : x ∈ seconds q := by
  obtain ⟨y, hy⟩ := mem_seconds.mp hx
  exact mem_seconds.mpr ⟨y, h.subset hy⟩
/-- the member test of the set with the first j of the loose things, and f's paired members -/
def flip (f : Int → Bool) (L : List Int) (j : Nat) : Int → Bool := fun x => if L.contains x then (L.take j).contains x else f x
theorem flip_in {f : Int → Bool} {L : List Int} {j : Nat} {x : Int} (h : x ∈ L) : flip f L j x = (L.take j).contains x := if_pos (List.contains_iff_mem.mpr h)
theorem flip_out {f : Int → Bool} {L : List Int} {j : Nat} {x : Int} (h : x ∉ L) : flip f L j x = f x := if_neg fun z => h (List.contains_iff_mem.mp z)
/-- THE CHAIN: the set with the first j loose things has the same pairs -/
theorem chain_st (f : Int → Bool) (n j : Nat) : st (flip f (lse (st f n)) j) n = ⟨(st f n).prs, (lse (st f n)).take j, (lse (st f n)).drop j⟩ := by
  have on := ok_st f n
  have upL := lse_up f n
  have memL : ∀ x, x ∈ lse (st f n) ↔ x ∈ (st f n).aln ∨ x ∈ (st f n).wt := fun x => List.mem_append
  generalize hL : lse (st f n) = L at *
  have main : ∀ i : Nat, i ≤ n → ∃ wl pd : List Int, (st f i).wt = wl ++ pd ∧ (∀ x ∈ wl, x ∈ L) ∧ (∀ x ∈ pd, x ∉ L) ∧ L.filter (fun y => decide (y < (i : Int))) = (st f i).aln ++ wl ∧
      st (flip f L j) i = ⟨(st f i).prs, (L.filter (fun y => decide (y < (i : Int)))).take j, (L.filter (fun y => decide (y < (i : Int)))).drop j ++ pd⟩ := by
    intro i
    induction i with
    | zero =>
      intro _
      have e : L.filter (fun y => decide (y < ((0 : Nat) : Int))) = [] := List.filter_eq_nil_iff.mpr fun y hy => by
        rcases (memL y).mp hy with q | q
        · have := (aln_iff.mp q).1
          simp
          omega
        · have := (wt_iff.mp q).1
          simp
          omega
      exact ⟨[], [], rfl, (fun x h => nomatch h), (fun x h => nomatch h), e, by rw [e]; simp; rfl⟩
    | succ i ih =>
      intro hi
      obtain ⟨wl, pd, eW, hwl, hpd, eL, eS⟩ := ih (by omega)
      obtain ⟨d, hd⟩ : ∃ d, n = (i + 1) + d := ⟨n - (i + 1), by omega⟩
      have sP : (st f (i + 1)).prs <+: (st f n).prs := by rw [hd]; exact prs_mono f (i + 1) d
      have sA : (st f (i + 1)).aln <+: (st f n).aln := by rw [hd]; exact aln_mono f (i + 1) d
      have e1 : st f (i + 1) = stp (f i) i (st f i) := rfl
      have e2 : st (flip f L j) (i + 1) = stp (flip f L j i) i (st (flip f L j) i) := rfl
      rw [e2, eS]
      cases hf : f i with
      | false =>
        rw [hf, stp_no] at e1
        by_cases hiL : (i : Int) ∈ L
        · -- it waits to the end: nothing that closes later waits below it
          have iw : (i : Int) ∈ (st f n).wt := by
            rcases (memL i).mp hiL with q | q
            · have := (aln_iff.mp q).2.1
              rw [hf] at this
              cases this
            · exact q
          have pd0 : pd = [] := by
            cases pd with
            | nil => rfl
            | cons y r =>
              have pre : ((st f i).wt ++ [(i : Int)]) <+: (st f (i + 1)).wt := by rw [e1]; exact List.prefix_refl _
              have := stk (f := f) (i := i + 1) (U := (st f i).wt) (x := i) d pre (by rw [← hd]; exact iw)
              rw [← hd, eW] at this
              have hy : y ∈ (st f n).wt := this.subset (List.mem_append_left _ (List.mem_append_right _ (List.mem_cons_self ..)))
              exact absurd ((memL y).mpr (.inr hy)) (hpd y (List.mem_cons_self ..))
          subst pd0
          rw [List.append_nil] at eW
          have eL2 := up_filter_succ upL hiL
          refine ⟨wl ++ [(i : Int)], [], ?_, ?_, (fun x h => nomatch h), ?_, ?_⟩
          · rw [e1, List.append_nil]
            show (st f i).wt ++ [(i : Int)] = _
            rw [eW]
          · intro x hx
            rcases List.mem_append.mp hx with q | q
            · exact hwl x q
            · rw [List.mem_singleton] at q
              rw [q]
              exact hiL
          · rw [eL2, eL, e1, List.append_assoc]
          · rw [flip_in hiL, e1, eL2]
            have tm := up_take_mem upL hiL j
            generalize L.filter (fun y => decide (y < (i : Int))) = Li at *
            cases hc : (L.take j).contains (i : Int) with
            | true =>
              have lt := tm.mp (List.contains_iff_mem.mp hc)
              rw [stp_alone (by dsimp only; rw [List.drop_of_length_le (by omega)]; rfl)]
              dsimp only
              rw [List.take_of_length_le (by omega), List.take_of_length_le (by rw [List.length_append, List.length_singleton]; omega), List.drop_of_length_le (by rw [List.length_append, List.length_singleton]; omega)]
              rfl
            | false =>
              have ge : ¬ Li.length < j := fun z => by
                rw [List.contains_iff_mem.mpr (tm.mpr z)] at hc
                cases hc
              rw [stp_no]
              dsimp only
              rw [List.take_append_of_le_length (by omega), List.drop_append_of_le_length (by omega), List.append_nil, List.append_nil]
        · refine ⟨wl, pd ++ [(i : Int)], ?_, hwl, ?_, ?_, ?_⟩
          · rw [e1]
            show (st f i).wt ++ [(i : Int)] = _
            rw [eW, List.append_assoc]
          · intro x hx
            rcases List.mem_append.mp hx with q | q
            · exact hpd x q
            · rw [List.mem_singleton] at q
              rw [q]
              exact hiL
          · rw [filter_succ_no hiL, eL, e1]
          · rw [flip_out hiL, hf, stp_no, filter_succ_no hiL, e1]
            dsimp only
            rw [List.append_assoc]
      | true =>
        rw [hf] at e1
        rcases snoc_cases (st f i).wt with q | ⟨r, w, q⟩
        · rw [stp_alone q] at e1
          rw [q] at eW
          obtain ⟨rfl, rfl⟩ := List.append_eq_nil_iff.mp eW.symm
          rw [List.append_nil] at eL
          have iA : (i : Int) ∈ (st f n).aln := sA.subset (by rw [e1]; exact List.mem_append_right _ (List.mem_singleton.mpr rfl))
          have hiL : (i : Int) ∈ L := (memL i).mpr (.inl iA)
          have eL2 := up_filter_succ upL hiL
          refine ⟨[], [], by rw [e1]; rfl, (fun x h => nomatch h), (fun x h => nomatch h), by rw [eL2, eL, e1, List.append_nil], ?_⟩
          rw [flip_in hiL, e1, eL2]
          have tm := up_take_mem upL hiL j
          generalize L.filter (fun y => decide (y < (i : Int))) = Li at *
          cases hc : (L.take j).contains (i : Int) with
          | true =>
            have lt := tm.mp (List.contains_iff_mem.mp hc)
            rw [stp_alone (by dsimp only; rw [List.drop_of_length_le (by omega)]; rfl)]
            dsimp only
            rw [List.take_of_length_le (by omega), List.take_of_length_le (by rw [List.length_append, List.length_singleton]; omega), List.drop_of_length_le (by rw [List.length_append, List.length_singleton]; omega)]
            rfl
          | false =>
            have ge : ¬ Li.length < j := fun z => by
              rw [List.contains_iff_mem.mpr (tm.mpr z)] at hc
              cases hc
            rw [stp_no]
            dsimp only
            rw [List.take_append_of_le_length (by omega), List.drop_append_of_le_length (by omega), List.append_nil, List.append_nil]
        · rw [stp_pop q] at e1
          have wF : w ∈ firsts (st f n).prs := firsts_sub sP (by rw [e1]; exact mem_firsts.mpr ⟨i, List.mem_append_right _ (List.mem_singleton.mpr rfl)⟩)
          have iS : (i : Int) ∈ seconds (st f n).prs := seconds_sub sP (by rw [e1]; exact mem_seconds.mpr ⟨w, List.mem_append_right _ (List.mem_singleton.mpr rfl)⟩)
          have wL : w ∉ L := fun z => by
            rcases (memL w).mp z with z | z
            · obtain ⟨y, hy⟩ := mem_firsts.mp wF
              have h1 := (on.fst _ hy).2.2.2.1
              have h2 := (aln_iff.mp z).2.1
              dsimp only at h1
              rw [h1] at h2
              cases h2
            · exact (wt_iff.mp z).2.2 wF
          have iL : (i : Int) ∉ L := fun z => by
            rcases (memL i).mp z with z | z
            · exact (aln_iff.mp z).2.2 iS
            · have h2 := (wt_iff.mp z).2.1
              rw [hf] at h2
              cases h2
          rcases snoc_cases pd with z | ⟨pd', w', z⟩
          · subst z
            rw [List.append_nil] at eW
            exact absurd (hwl w (by rw [← eW, q]; exact List.mem_append_right _ (List.mem_singleton.mpr rfl))) wL
          · subst z
            rw [q, ← List.append_assoc] at eW
            have ew : w = w' := by simpa using List.append_inj_right' eW rfl
            have er : r = wl ++ pd' := List.append_inj_left' eW rfl
            subst ew
            refine ⟨wl, pd', ?_, hwl, fun x hx => hpd x (List.mem_append_left _ hx), ?_, ?_⟩
            · rw [e1]
              exact er
            · rw [filter_succ_no iL, eL, e1]
            · rw [flip_out iL, hf, stp_pop (r := (L.filter (fun y => decide (y < (i : Int)))).drop j ++ pd') (w := w) (by dsimp only; rw [List.append_assoc]), filter_succ_no iL, e1]
  obtain ⟨wl, pd, eW, hwl, hpd, eL, eS⟩ := main n (Nat.le_refl n)
  have pd0 : pd = [] := by
    cases pd with
    | nil => rfl
    | cons y r => exact absurd ((memL y).mpr (.inr (by rw [eW]; exact List.mem_append_right _ (List.mem_cons_self ..)))) (hpd y (List.mem_cons_self ..))
  subst pd0
  rw [List.append_nil] at eW
  have eLn : L.filter (fun y => decide (y < (n : Int))) = L := by
    rw [eL, ← eW]
    exact hL
  rw [eLn, List.append_nil] at eS
  exact eS
end SC
namespace SC
/-! ### the sets of a chain -/
theorem mem_filter_irange {n : Nat} {p : Int → Bool} {i : Nat} (h : i < n) : mem ((irange n).filter p) (i : Int) = p i := by
  cases e : p (i : Int) with
  | true => exact mem_true.mpr (List.mem_filter.mpr ⟨mem_irange.mpr (by omega), e⟩)
  | false =>
    refine mem_false.mpr fun z => ?_
    have := (List.mem_filter.mp z).2
    rw [e] at this
    cases this
def loo (n : Nat) (ms : List Int) : List Int := lse (fin n ms)
/-- the set of its chain with the first j of the loose things -/
def cset (n : Nat) (ms : List Int) (j : Nat) : List Int := (irange n).filter (flip (mem ms) (loo n ms) j)
theorem cset_set (n : Nat) (ms : List Int) (j : Nat) : IsSet n (cset n ms j) := isSet_of _
theorem cset_fin (n : Nat) (ms : List Int) (j : Nat) : fin n (cset n ms j) = ⟨(fin n ms).prs, (loo n ms).take j, (loo n ms).drop j⟩ := by
  unfold fin cset
  rw [st_congr fun i hi => mem_filter_irange hi]
  exact chain_st (mem ms) n j
theorem cset_loo (n : Nat) (ms : List Int) (j : Nat) : loo n (cset n ms j) = loo n ms := by
  unfold loo lse
  rw [cset_fin]
  dsimp only
  rw [List.take_append_drop]
  rfl
theorem loo_up (n : Nat) (ms : List Int) : Up (loo n ms) := lse_up (mem ms) n
theorem loo_mem {n : Nat} {ms : List Int} {x : Int} : x ∈ loo n ms ↔ x ∈ (fin n ms).aln ∨ x ∈ (fin n ms).wt := List.mem_append
theorem loo_len (n : Nat) (ms : List Int) : (loo n ms).length = (fin n ms).aln.length + (fin n ms).wt.length := List.length_append
theorem fin_sum (n : Nat) (ms : List Int) : 2 * (fin n ms).prs.length + (fin n ms).aln.length + (fin n ms).wt.length = n := (ok_st (mem ms) n).sum
theorem fin_aln_iff {n : Nat} {ms : List Int} {x : Int} : x ∈ (fin n ms).aln ↔ (0 ≤ x ∧ x < n) ∧ x ∈ ms ∧ x ∉ seconds (fin n ms).prs := by
  unfold fin
  rw [aln_iff, mem_true]
theorem fin_wt_iff {n : Nat} {ms : List Int} {x : Int} : x ∈ (fin n ms).wt ↔ (0 ≤ x ∧ x < n) ∧ x ∉ ms ∧ x ∉ firsts (fin n ms).prs := by
  unfold fin
  rw [wt_iff, mem_false]
theorem cset_mem {n : Nat} {ms : List Int} {j : Nat} {x : Int} : x ∈ cset n ms j ↔ (0 ≤ x ∧ x < n) ∧ ((x ∈ loo n ms ∧ x ∈ (loo n ms).take j) ∨ (x ∉ loo n ms ∧ x ∈ ms)) := by
  unfold cset
  rw [List.mem_filter, mem_irange]
  by_cases h : x ∈ loo n ms
  · rw [flip_in h, List.contains_iff_mem]
    simp [h]
  · rw [flip_out h, mem_true]
    simp [h]
theorem cset_self {n : Nat} {ms : List Int} (h : IsSet n ms) : cset n ms (fin n ms).aln.length = ms := by
  refine up_ext (cset_set n ms _).up h.up fun x => ?_
  have et : (loo n ms).take (fin n ms).aln.length = (fin n ms).aln := List.take_left' rfl
  rw [cset_mem, et]
  constructor
  · rintro ⟨_, ⟨_, q⟩ | ⟨_, q⟩⟩
    · exact (fin_aln_iff.mp q).2.1
    · exact q
  · intro q
    refine ⟨⟨h.lo x q, h.hi x q⟩, ?_⟩
    by_cases z : x ∈ loo n ms
    · refine .inl ⟨z, ?_⟩
      rcases loo_mem.mp z with z | z
      · exact z
      · exact absurd q (fin_wt_iff.mp z).2.1
    · exact .inr ⟨z, q⟩
theorem loo_bd {n : Nat} {ms : List Int} {x : Int} (h : x ∈ loo n ms) : 0 ≤ x ∧ x < n := by
  rcases loo_mem.mp h with z | z
  · exact (fin_aln_iff.mp z).1
  · exact (fin_wt_iff.mp z).1
/-- one thing more -/
theorem cset_next {n : Nat} {ms : List Int} {j : Nat} {x : Int} (h : (loo n ms)[j]? = some x) : isort (cset n ms j ++ [x]) = cset n ms (j + 1) := by
  have hx : x ∈ loo n ms := List.mem_of_getElem? h
  have et : (loo n ms).take (j + 1) = (loo n ms).take j ++ [x] := by
    rw [List.take_add_one, h]
    rfl
  have nx : x ∉ (loo n ms).take j := by
    have u := up_take (loo_up n ms) (j + 1)
    rw [et] at u
    intro z
    have := (up_last u).1 x z
    omega
  have nd : (cset n ms j ++ [x]).Nodup := by
    refine List.nodup_append.mpr ⟨up_nodup (cset_set n ms j).up, by simp, fun a ha b hb e => ?_⟩
    rw [List.mem_singleton] at hb
    subst hb e
    rcases (cset_mem.mp ha).2 with ⟨_, q⟩ | ⟨q, _⟩
    · exact nx q
    · exact q hx
  refine up_ext (isort_up nd) (cset_set n ms _).up fun y => ?_
  rw [isort_mem, List.mem_append, List.mem_singleton, cset_mem, cset_mem, et, List.mem_append, List.mem_singleton]
  constructor
  · rintro (⟨a, ⟨b, c⟩ | ⟨b, c⟩⟩ | rfl)
    · exact ⟨a, .inl ⟨b, .inl c⟩⟩
    · exact ⟨a, .inr ⟨b, c⟩⟩
    · exact ⟨loo_bd hx, .inl ⟨hx, .inr rfl⟩⟩
  · rintro ⟨a, ⟨b, c | c⟩ | ⟨b, c⟩⟩
    · exact .inl ⟨a, .inl ⟨b, c⟩⟩
    · exact .inr c
    · exact .inl ⟨a, .inr ⟨b, c⟩⟩
/-- one thing less -/
theorem cset_prev {n : Nat} {ms : List Int} {j : Nat} {x : Int} (h : (loo n ms)[j]? = some x) : (cset n ms (j + 1)).filter (fun y => y != x) = cset n ms j := by
  have hx : x ∈ loo n ms := List.mem_of_getElem? h
  have et : (loo n ms).take (j + 1) = (loo n ms).take j ++ [x] := by
    rw [List.take_add_one, h]
    rfl
  have nx : x ∉ (loo n ms).take j := by
    have u := up_take (loo_up n ms) (j + 1)
    rw [et] at u
    intro z
    have := (up_last u).1 x z
    omega
  refine up_ext (up_filter (cset_set n ms _).up _) (cset_set n ms _).up fun y => ?_
  rw [List.mem_filter, cset_mem, cset_mem, et, List.mem_append, List.mem_singleton]
  have ne : (y != x) = true ↔ y ≠ x := by simp
  rw [ne]
  constructor
  · rintro ⟨⟨a, ⟨b, c | c⟩ | ⟨b, c⟩⟩, d⟩
    · exact ⟨a, .inl ⟨b, c⟩⟩
    · exact absurd c d
    · exact ⟨a, .inr ⟨b, c⟩⟩
  · rintro ⟨a, ⟨b, c⟩ | ⟨b, c⟩⟩
    · exact ⟨⟨a, .inl ⟨b, .inl c⟩⟩, fun e => nx (e ▸ c)⟩
    · exact ⟨⟨a, .inr ⟨b, c⟩⟩, fun e => b (e ▸ hx)⟩
theorem cset_cset (n : Nat) (ms : List Int) (j i : Nat) : cset n (cset n ms j) i = cset n ms i := by
  refine up_ext (cset_set _ _ _).up (cset_set _ _ _).up fun x => ?_
  rw [cset_mem, cset_mem, cset_loo, cset_mem]
  constructor
  · rintro ⟨a, b | ⟨b, c⟩⟩
    · exact ⟨a, .inl b⟩
    · rcases c.2 with ⟨d, _⟩ | ⟨_, d⟩
      · exact absurd d b
      · exact ⟨a, .inr ⟨b, d⟩⟩
  · rintro ⟨a, b | ⟨b, c⟩⟩
    · exact ⟨a, .inl b⟩
    · exact ⟨a, .inr ⟨b, a, .inr ⟨b, c⟩⟩⟩
theorem cset_zero {n : Nat} {ms : List Int} (h : IsSet n ms) : ms.filter (fun x => !(fin n ms).aln.contains x) = cset n ms 0 := by
  refine up_ext (up_filter h.up _) (cset_set _ _ _).up fun x => ?_
  rw [List.mem_filter, cset_mem, Bool.not_eq_true', show ((fin n ms).aln.contains x = false ↔ x ∉ (fin n ms).aln) from mem_false, List.take_zero]
  constructor
  · rintro ⟨a, b⟩
    refine ⟨⟨h.lo x a, h.hi x a⟩, .inr ⟨fun z => ?_, a⟩⟩
    rcases loo_mem.mp z with z | z
    · exact b z
    · exact (fin_wt_iff.mp z).2.1 a
  · rintro ⟨a, ⟨_, b⟩ | ⟨b, c⟩⟩
    · exact nomatch b
    · exact ⟨c, fun z => b (loo_mem.mpr (.inl z))⟩
/-- how many things are in it -/
theorem set_len {n : Nat} {ms : List Int} (h : IsSet n ms) : ms.length = (fin n ms).prs.length + (fin n ms).aln.length := by
  have o := ok_st (mem ms) n
  have e1 : (seconds (fin n ms).prs).length = (fin n ms).prs.length := List.length_map _
  have p : (seconds (fin n ms).prs ++ (fin n ms).aln).Perm ms := by
    refine (List.perm_ext_iff_of_nodup ?_ (up_nodup h.up)).mpr fun x => ?_
    · refine List.nodup_append.mpr ⟨up_nodup o.nd2, up_nodup (fin_aln_set ms).up, fun a ha b hb e => ?_⟩
      subst e
      exact (fin_aln_iff.mp hb).2.2 ha
    · rw [List.mem_append, fin_aln_iff]
      constructor
      · rintro (q | q)
        · obtain ⟨y, hy⟩ := mem_seconds.mp q
          exact mem_true.mp (o.fst _ hy).2.2.2.2
        · exact q.2.1
      · intro q
        by_cases z : x ∈ seconds (fin n ms).prs
        · exact .inl z
        · exact .inr ⟨⟨h.lo x q, h.hi x q⟩, q, z⟩
  have := p.length_eq
  rw [List.length_append, e1] at this
  exact this.symm
theorem cset_len {n : Nat} {ms : List Int} {j : Nat} (h : j ≤ (loo n ms).length) : (cset n ms j).length = (fin n ms).prs.length + j := by
  rw [set_len (cset_set n ms j), cset_fin]
  dsimp only
  rw [List.length_take, Nat.min_eq_left h]
/-- the set above, the set below -/
def aboveL (n : Nat) (ms : List Int) : Option (List Int) := match (fin n ms).wt with
  | [] => none
  | w :: _ => some (isort (ms ++ [w]))
def belowL (n : Nat) (ms : List Int) : Option (List Int) := match (fin n ms).aln.getLast? with
  | none => none
  | some x => some (ms.filter fun y => y != x)
theorem aboveL_nil {n : Nat} {ms : List Int} (h : (fin n ms).wt = []) : aboveL n ms = none := by unfold aboveL; rw [h]
theorem aboveL_cons {n : Nat} {ms r : List Int} {w : Int} (h : (fin n ms).wt = w :: r) : aboveL n ms = some (isort (ms ++ [w])) := by unfold aboveL; rw [h]
theorem belowL_nil {n : Nat} {ms : List Int} (h : (fin n ms).aln = []) : belowL n ms = none := by unfold belowL; rw [h]; rfl
theorem belowL_snoc {n : Nat} {ms r : List Int} {x : Int} (h : (fin n ms).aln = r ++ [x]) : belowL n ms = some (ms.filter fun y => y != x) := by unfold belowL; rw [h, List.getLast?_concat]
theorem aboveL_cset {n : Nat} {ms : List Int} (h : IsSet n ms) {w : Int} {r : List Int} (e : (fin n ms).wt = w :: r) : isort (ms ++ [w]) = cset n ms ((fin n ms).aln.length + 1) := by
  have g : (loo n ms)[(fin n ms).aln.length]? = some w := by
    show ((fin n ms).aln ++ (fin n ms).wt)[_]? = _
    rw [e, List.getElem?_append_right (Nat.le_refl _), Nat.sub_self]
    rfl
  have := cset_next g
  rw [cset_self h] at this
  exact this
theorem belowL_cset {n : Nat} {ms : List Int} (h : IsSet n ms) {x : Int} {r : List Int} (e : (fin n ms).aln = r ++ [x]) : ms.filter (fun y => y != x) = cset n ms r.length := by
  have g : (loo n ms)[r.length]? = some x := by
    show ((fin n ms).aln ++ (fin n ms).wt)[_]? = _
    rw [e, List.append_assoc, List.getElem?_append_right (Nat.le_refl _), Nat.sub_self]
    rfl
  have := cset_prev g
  have el : (fin n ms).aln.length = r.length + 1 := by rw [e, List.length_append, List.length_singleton]
  rw [← el, cset_self h] at this
  exact this
/-- up, then down -/
theorem below_above {n : Nat} {ms u : List Int} (h : IsSet n ms) (e : aboveL n ms = some u) : IsSet n u ∧ belowL n u = some ms := by
  cases hw : (fin n ms).wt with
  | nil => rw [aboveL_nil hw] at e; cases e
  | cons w r =>
    rw [aboveL_cons hw] at e
    cases e
    rw [aboveL_cset h hw]
    have g : (loo n ms)[(fin n ms).aln.length]? = some w := by
      show ((fin n ms).aln ++ (fin n ms).wt)[_]? = _
      rw [hw, List.getElem?_append_right (Nat.le_refl _), Nat.sub_self]
      rfl
    refine ⟨cset_set _ _ _, ?_⟩
    have ea : (fin n (cset n ms ((fin n ms).aln.length + 1))).aln = (loo n ms).take (fin n ms).aln.length ++ [w] := by
      rw [cset_fin]
      dsimp only
      rw [List.take_add_one, g]
      rfl
    rw [belowL_snoc ea, cset_prev g, cset_self h]
theorem above_below {n : Nat} {ms u : List Int} (h : IsSet n ms) (e : belowL n ms = some u) : IsSet n u ∧ aboveL n u = some ms := by
  rcases snoc_cases (fin n ms).aln with ha | ⟨r, x, ha⟩
  · rw [belowL_nil ha] at e; cases e
  · rw [belowL_snoc ha] at e
    cases e
    rw [belowL_cset h ha]
    have g : (loo n ms)[r.length]? = some x := by
      show ((fin n ms).aln ++ (fin n ms).wt)[_]? = _
      rw [ha, List.append_assoc, List.getElem?_append_right (Nat.le_refl _), Nat.sub_self]
      rfl
    refine ⟨cset_set _ _ _, ?_⟩
    have ew : (fin n (cset n ms r.length)).wt = x :: (loo n ms).drop (r.length + 1) := by
      rw [cset_fin]
      dsimp only
      rw [List.drop_eq_getElem?_toList_append, g]
      rfl
    have el : (fin n ms).aln.length = r.length + 1 := by rw [ha, List.length_append, List.length_singleton]
    rw [aboveL_cons ew, cset_next g, ← el, cset_self h]
end SC
namespace SC
/-- the chain -/
def chainL (n : Nat) (ms : List Int) : List (List Int) := (List.range ((loo n ms).length + 1)).map (cset n ms)
theorem chainL_len (n : Nat) (ms : List Int) : (chainL n ms).length = (loo n ms).length + 1 := by simp [chainL]
theorem chainL_get {n : Nat} {ms : List Int} {j : Nat} (h : j ≤ (loo n ms).length) : (chainL n ms)[j]? = some (cset n ms j) := by
  unfold chainL
  rw [List.getElem?_map, List.getElem?_range (by omega)]
  rfl
theorem chainL_mem {n : Nat} {ms r : List Int} (h : r ∈ chainL n ms) : ∃ j, j ≤ (loo n ms).length ∧ r = cset n ms j := by
  obtain ⟨j, hj, e⟩ := List.mem_map.mp h
  exact ⟨j, by have := List.mem_range.mp hj; omega, e.symm⟩
theorem chainL_cset (n : Nat) (ms : List Int) (j : Nat) : chainL n (cset n ms j) = chainL n ms := by
  unfold chainL
  rw [cset_loo]
  refine List.map_congr_left fun i _ => cset_cset n ms j i
theorem chainL_self {n : Nat} {ms : List Int} (h : IsSet n ms) : ms ∈ chainL n ms := by
  have l := loo_len n ms
  have g := chainL_get (n := n) (ms := ms) (j := (fin n ms).aln.length) (by omega)
  rw [cset_self h] at g
  exact List.mem_of_getElem? g
/-- what is in the next set alone -/
theorem cset_more {n : Nat} {ms : List Int} {j : Nat} {x : Int} (h : (loo n ms)[j]? = some x) : (cset n ms (j + 1)).filter (fun y => !(cset n ms j).contains y) = [x] := by
  have hx : x ∈ loo n ms := List.mem_of_getElem? h
  have et : (loo n ms).take (j + 1) = (loo n ms).take j ++ [x] := by
    rw [List.take_add_one, h]
    rfl
  have nx : x ∉ (loo n ms).take j := by
    have u := up_take (loo_up n ms) (j + 1)
    rw [et] at u
    intro z
    have := (up_last u).1 x z
    omega
  refine up_ext (up_filter (cset_set _ _ _).up _) (List.pairwise_singleton _ _) fun y => ?_
  rw [List.mem_filter, Bool.not_eq_true', show ((cset n ms j).contains y = false ↔ y ∉ cset n ms j) from mem_false, List.mem_singleton, cset_mem, cset_mem, et, List.mem_append, List.mem_singleton]
  constructor
  · rintro ⟨⟨a, ⟨b, c | c⟩ | ⟨b, c⟩⟩, d⟩
    · exact absurd ⟨a, .inl ⟨b, c⟩⟩ d
    · exact c
    · exact absurd ⟨a, .inr ⟨b, c⟩⟩ d
  · rintro rfl
    refine ⟨⟨loo_bd hx, .inl ⟨hx, .inr rfl⟩⟩, ?_⟩
    rintro ⟨_, ⟨_, c⟩ | ⟨c, _⟩⟩
    · exact nx c
    · exact c hx
end SC
namespace SC
/-! ### the clash of a family -/
def subL (xs ys : List Int) : Bool := xs.all fun x => ys.contains x
def hit (rows : List (List Int)) (k j : Nat) : Bool := (k != j) && subL (rows.getD k []) (rows.getD j [])
def NoHit (rows : List (List Int)) : Prop := ∀ k j, k < rows.length → j < rows.length → hit rows k j = false
structure First (rows : List (List Int)) (k j : Nat) : Prop where
  hk : k < rows.length
  hj : j < rows.length
  hit : hit rows k j = true
  less : ∀ k' j', k' < k → j' < rows.length → SC.hit rows k' j' = false
  lessj : ∀ j', j' < j → SC.hit rows k j' = false
theorem First.uniq {rows : List (List Int)} {k j k' j' : Nat} (a : First rows k j) (b : First rows k' j') : k = k' ∧ j = j' := by
  have hk : k = k' := by
    rcases Nat.lt_trichotomy k k' with h | h | h
    · have := b.less k j h a.hj
      rw [a.hit] at this
      cases this
    · exact h
    · have := a.less k' j' h b.hj
      rw [b.hit] at this
      cases this
  subst hk
  refine ⟨rfl, ?_⟩
  rcases Nat.lt_trichotomy j j' with h | h | h
  · have := b.lessj j h
    rw [a.hit] at this
    cases this
  · exact h
  · have := a.lessj j' h
    rw [b.hit] at this
    cases this
theorem First.no {rows : List (List Int)} {k j : Nat} (a : First rows k j) (h : NoHit rows) : False := by
  have := h k j a.hk a.hj
  rw [a.hit] at this
  cases this
theorem hit_of {rows : List (List Int)} {k j : Nat} {r t : List Int} (h1 : rows[k]? = some r) (h2 : rows[j]? = some t) : hit rows k j = ((k != j) && subL r t) := by
  unfold hit
  rw [List.getD_eq_getElem?_getD, List.getD_eq_getElem?_getD, h1, h2]
  rfl
theorem subL_iff {xs ys : List Int} : subL xs ys = true ↔ ∀ x ∈ xs, x ∈ ys := by
  unfold subL
  rw [List.all_eq_true]
  constructor
  · intro h x hx
    exact List.contains_iff_mem.mp (h x hx)
  · intro h x hx
    exact List.contains_iff_mem.mpr (h x hx)
end SC
namespace SC
/-! ### numbers of the bottoms -/
theorem pk_pascal {r : Nat} (c : Int) : picks ((r : Int) + 1) c = picks r c + picks r (c - 1) := by
  by_cases h : c < 0
  · unfold picks
    rw [if_pos (.inl h), if_pos (.inl h), if_pos (.inl (by omega))]
    rfl
  · obtain ⟨k, rfl⟩ : ∃ k : Nat, c = (k : Int) := ⟨c.toNat, by omega⟩
    have e : ((r : Int) + 1) = ((r + 1 : Nat) : Int) := by omega
    rw [e, picks_nat, picks_nat]
    cases k with
    | zero =>
      rw [ch_zero, ch_zero]
      unfold picks
      rw [if_pos (.inl (by omega))]
      rfl
    | succ k =>
      have e2 : (((k + 1 : Nat) : Int) - 1) = (k : Int) := by omega
      rw [e2, picks_nat]
      show ((ch r k + ch r (k + 1) : Nat) : Int) = _
      omega
theorem pk_neg {t c : Int} (h : c < 0) : picks t c = 0 := if_pos (.inl h)
/-- rows of so many things, so many of them closing, where so many wait -/
def en (r c w : Int) : Int := picks r c - picks r (c - w - 1)
theorem en_step {r : Nat} (c w : Int) : en ((r : Int) + 1) c w = en r c (w + 1) + en r (c - 1) (w - 1) := by
  unfold en
  rw [pk_pascal, pk_pascal]
  have e1 : c - (w + 1) - 1 = c - w - 1 - 1 := by omega
  have e2 : c - 1 - (w - 1) - 1 = c - w - 1 := by omega
  rw [e1, e2]
  omega
theorem en_off (r c : Int) : en r c (-1) = 0 := by
  unfold en
  rw [show c - -1 - 1 = c by omega]
  omega
theorem pk_zero (c : Int) : picks 0 c = if c = 0 then 1 else 0 := by
  by_cases h : c = 0
  · subst h
    rfl
  · rw [if_neg h]
    exact if_pos (by omega)
theorem en_zero {c w : Int} (hw : 0 ≤ w) (h : 0 ≤ w - 2 * c) : en 0 c w = if c = 0 then 1 else 0 := by
  unfold en
  rw [pk_zero, pk_zero, if_neg (show ¬ c - w - 1 = 0 by omega)]
  omega
theorem en_nn : ∀ (r : Nat) (c w : Int), -1 ≤ w → -1 ≤ w + r - 2 * c → 0 ≤ en r c w
  | 0, c, w, h1, h2 => by
    by_cases hw : w = -1
    · rw [hw, en_off]
      omega
    · unfold en
      show 0 ≤ picks 0 c - picks 0 (c - w - 1)
      rw [pk_zero, pk_zero, if_neg (show ¬ c - w - 1 = 0 by omega)]
      split <;> omega
  | r + 1, c, w, h1, h2 => by
    by_cases hw : w = -1
    · rw [hw, en_off]
      omega
    · have := en_nn r c (w + 1) (by omega) (by omega)
      have := en_nn r (c - 1) (w - 1) (by omega) (by omega)
      rw [show (((r + 1 : Nat) : Int)) = (r : Int) + 1 by omega, en_step]
      omega
/-- the row with a number -/
def bw : Nat → Int → Int → Int → List Bool
  | 0, _, _, _ => []
  | r + 1, c, w, k => if k < en r c (w + 1) then false :: bw r c (w + 1) k else true :: bw r (c - 1) (w - 1) (k - en r c (w + 1))
/-- the number of a row -/
def nw : List Bool → Int → Int → Int
  | [], _, _ => 0
  | false :: l, c, w => nw l c (w + 1)
  | true :: l, c, w => en l.length c (w + 1) + nw l (c - 1) (w - 1)
/-- nothing closes what does not wait -/
def okW : List Bool → Int → Int → Prop
  | [], c, _ => c = 0
  | false :: l, c, w => okW l c (w + 1)
  | true :: l, c, w => 1 ≤ w ∧ okW l (c - 1) (w - 1)
theorem bw_len : ∀ (r : Nat) (c w k : Int), (bw r c w k).length = r
  | 0, _, _, _ => rfl
  | r + 1, c, w, k => by
    unfold bw
    split
    · rw [List.length_cons, bw_len r]
    · rw [List.length_cons, bw_len r]
theorem bw_ok : ∀ (r : Nat) (c w k : Int), 0 ≤ w → 0 ≤ w + r - 2 * c → 0 ≤ k → k < en r c w → okW (bw r c w k) c w ∧ nw (bw r c w k) c w = k
  | 0, c, w, k, hw, hf, h1, h2 => by
    have e := en_zero hw (by omega : 0 ≤ w - 2 * c)
    have e' : en ((0 : Nat) : Int) c w = en 0 c w := rfl
    rw [e', e] at h2
    by_cases hc : c = 0
    · rw [if_pos hc] at h2
      refine ⟨hc, ?_⟩
      show (0 : Int) = k
      omega
    · rw [if_neg hc] at h2
      omega
  | r + 1, c, w, k, hw, hf, h1, h2 => by
    rw [show (((r + 1 : Nat) : Int)) = (r : Int) + 1 by omega, en_step] at h2
    unfold bw
    split
    · rename_i h
      exact bw_ok r c (w + 1) k (by omega) (by omega) h1 h
    · rename_i h
      have hw1 : 1 ≤ w := by
        by_cases z : w = 0
        · subst z
          have := en_off r (c - 1)
          have e : (0 : Int) - 1 = -1 := rfl
          rw [e] at h2
          omega
        · omega
      obtain ⟨a, b⟩ := bw_ok r (c - 1) (w - 1) (k - en r c (w + 1)) (by omega) (by omega) (by omega) (by omega)
      refine ⟨⟨hw1, a⟩, ?_⟩
      show en (bw r (c - 1) (w - 1) (k - en r c (w + 1))).length c (w + 1) + nw (bw r (c - 1) (w - 1) (k - en r c (w + 1))) (c - 1) (w - 1) = k
      rw [b, bw_len]
      omega
theorem okW_end : ∀ (l : List Bool) (c w : Int), 0 ≤ w → okW l c w → 0 ≤ w + l.length - 2 * c
  | [], c, w, hw, h => by
    have h : c = 0 := h
    subst h
    simp
    exact hw
  | false :: l, c, w, hw, h => by
    have := okW_end l c (w + 1) (by omega) h
    rw [List.length_cons]
    omega
  | true :: l, c, w, hw, h => by
    obtain ⟨h1, h2⟩ := h
    have := okW_end l (c - 1) (w - 1) (by omega) h2
    rw [List.length_cons]
    omega
theorem nw_ok : ∀ (l : List Bool) (c w : Int), 0 ≤ w → okW l c w → 0 ≤ nw l c w ∧ nw l c w < en l.length c w ∧ bw l.length c w (nw l c w) = l
  | [], c, w, hw, h => by
    have h : c = 0 := h
    subst h
    have e := en_zero hw (by omega : 0 ≤ w - 2 * 0)
    refine ⟨Int.le_refl _, ?_, rfl⟩
    show (0 : Int) < en 0 0 w
    rw [e]
    decide
  | false :: l, c, w, hw, h => by
    obtain ⟨a, b, d⟩ := nw_ok l c (w + 1) (by omega) h
    have f := okW_end l c (w + 1) (by omega) h
    have e : nw (false :: l) c w = nw l c (w + 1) := rfl
    have el : (((false :: l).length : Nat) : Int) = (l.length : Int) + 1 := by rw [List.length_cons]; omega
    rw [e, el, en_step]
    refine ⟨a, ?_, ?_⟩
    · have := en_nn l.length (c - 1) (w - 1) (by omega) (by omega)
      omega
    · rw [List.length_cons]
      unfold bw
      rw [if_pos b, d]
  | true :: l, c, w, hw, h => by
    obtain ⟨h1, h2⟩ := h
    obtain ⟨a, b, d⟩ := nw_ok l (c - 1) (w - 1) (by omega) h2
    have f := okW_end l (c - 1) (w - 1) (by omega) h2
    have e : nw (true :: l) c w = en l.length c (w + 1) + nw l (c - 1) (w - 1) := rfl
    have el : (((true :: l).length : Nat) : Int) = (l.length : Int) + 1 := by rw [List.length_cons]; omega
    have nn := en_nn l.length c (w + 1) (by omega) (by omega)
    rw [e, el, en_step]
    refine ⟨by omega, by omega, ?_⟩
    rw [List.length_cons]
    unfold bw
    rw [if_neg (by omega), show en (↑l.length) c (w + 1) + nw l (c - 1) (w - 1) - en (↑l.length) c (w + 1) = nw l (c - 1) (w - 1) by omega, d]
/-- the greater number has the first thing that is in just one -/
theorem bw_lex : ∀ (r : Nat) (c w k k' : Int), 0 ≤ w → 0 ≤ w + r - 2 * c → 0 ≤ k → k < k' → k' < en r c w → ∃ p q q', bw r c w k = p ++ false :: q ∧ bw r c w k' = p ++ true :: q'
  | 0, c, w, k, k', hw, hf, h0, h1, h2 => by
    have e := en_zero hw (by omega : 0 ≤ w - 2 * c)
    have e' : en ((0 : Nat) : Int) c w = en 0 c w := rfl
    rw [e', e] at h2
    split at h2 <;> omega
  | r + 1, c, w, k, k', hw, hf, h0, h1, h2 => by
    rw [show (((r + 1 : Nat) : Int)) = (r : Int) + 1 by omega, en_step] at h2
    unfold bw
    by_cases z : k' < en r c (w + 1)
    · rw [if_pos z, if_pos (by omega)]
      obtain ⟨p, q, q', e1, e2⟩ := bw_lex r c (w + 1) k k' (by omega) (by omega) h0 h1 z
      exact ⟨false :: p, q, q', by rw [e1]; rfl, by rw [e2]; rfl⟩
    · rw [if_neg z]
      by_cases y : k < en r c (w + 1)
      · rw [if_pos y]
        exact ⟨[], _, _, rfl, rfl⟩
      · rw [if_neg y]
        have hw1 : 1 ≤ w := by
          by_cases z : w = 0
          · subst z
            have := en_off r (c - 1)
            have e : (0 : Int) - 1 = -1 := rfl
            rw [e] at h2
            omega
          · omega
        obtain ⟨p, q, q', e1, e2⟩ := bw_lex r (c - 1) (w - 1) (k - en r c (w + 1)) (k' - en r c (w + 1)) (by omega) (by omega) (by omega) (by omega) (by omega)
        exact ⟨true :: p, q, q', by rw [e1]; rfl, by rw [e2]; rfl⟩
/-! ### rows and sets -/
/-- the members of a row -/
def tr (l : List Bool) : List Int := (irange l.length).filter fun x => l.getD x.toNat false
theorem tr_set (l : List Bool) : IsSet l.length (tr l) := isSet_of _
theorem tr_mem {l : List Bool} {x : Int} : x ∈ tr l ↔ 0 ≤ x ∧ l[x.toNat]? = some true := by
  unfold tr
  rw [List.mem_filter, mem_irange, List.getD_eq_getElem?_getD]
  constructor
  · rintro ⟨⟨h1, h2⟩, h3⟩
    refine ⟨h1, ?_⟩
    cases e : l[x.toNat]? with
    | none => rw [e] at h3; cases h3
    | some b =>
      rw [e] at h3
      have : b = true := h3
      rw [this]
  · rintro ⟨h1, h2⟩
    have := (List.getElem?_eq_some_iff.mp h2).1
    refine ⟨⟨h1, by omega⟩, ?_⟩
    rw [h2]
    rfl
theorem tr_snoc (l : List Bool) (b : Bool) : tr (l ++ [b]) = if b = true then tr l ++ [(l.length : Int)] else tr l := by
  have up : Up (if b = true then tr l ++ [(l.length : Int)] else tr l) := by
    split
    · refine List.pairwise_append.mpr ⟨(tr_set l).up, List.pairwise_singleton _ _, fun a ha c hc => ?_⟩
      rw [List.mem_singleton] at hc
      have := (tr_set l).hi a ha
      omega
    · exact (tr_set l).up
  refine up_ext (tr_set _).up up fun x => ?_
  rw [tr_mem]
  by_cases hx : x.toNat < l.length
  · rw [List.getElem?_append_left hx]
    split
    · rw [List.mem_append, tr_mem, List.mem_singleton]
      constructor
      · exact fun h => .inl h
      · rintro (h | h)
        · exact h
        · omega
    · rw [tr_mem]
  · rw [List.getElem?_append_right (by omega)]
    have nl : x ∉ tr l := fun h => by
      have h1 := (tr_set l).lo x h
      have h2 := (tr_set l).hi x h
      omega
    by_cases ex : x.toNat = l.length
    · rw [ex, Nat.sub_self]
      cases b with
      | false =>
        rw [if_neg (by decide)]
        constructor
        · rintro ⟨_, h⟩
          cases h
        · exact fun h => absurd h nl
      | true =>
        rw [if_pos rfl, List.mem_append, List.mem_singleton]
        constructor
        · rintro ⟨h, _⟩
          exact .inr (by omega)
        · rintro (h | h)
          · exact absurd h nl
          · exact ⟨by omega, rfl⟩
    · have e : ([b] : List Bool)[x.toNat - l.length]? = none := List.getElem?_eq_none (by rw [List.length_singleton]; omega)
      rw [e]
      constructor
      · rintro ⟨_, h⟩
        cases h
      · intro h
        split at h
        · rcases List.mem_append.mp h with h | h
          · exact absurd h nl
          · rw [List.mem_singleton] at h
            omega
        · exact absurd h nl
/-- the row of a set -/
def wd (n : Nat) (ms : List Int) : List Bool := (irange n).map (mem ms)
theorem wd_len (n : Nat) (ms : List Int) : (wd n ms).length = n := by unfold wd; rw [List.length_map, irange_len]
theorem wd_get {n i : Nat} {ms : List Int} (h : i < n) : (wd n ms)[i]? = some (mem ms i) := by
  unfold wd
  rw [List.getElem?_map, irange_get h]
  rfl
theorem tr_wd {n : Nat} {ms : List Int} (h : IsSet n ms) : tr (wd n ms) = ms := by
  refine up_ext (tr_set _).up h.up fun x => ?_
  rw [tr_mem]
  constructor
  · rintro ⟨h1, h2⟩
    have hl := (List.getElem?_eq_some_iff.mp h2).1
    rw [wd_len] at hl
    rw [wd_get hl] at h2
    have h3 := Option.some.inj h2
    rw [show ((x.toNat : Nat) : Int) = x by omega] at h3
    exact mem_true.mp h3
  · intro hx
    have h1 := h.lo x hx
    have h2 := h.hi x hx
    refine ⟨h1, ?_⟩
    rw [wd_get (by omega), show ((x.toNat : Nat) : Int) = x by omega, mem_true.mpr hx]
theorem wd_tr {n : Nat} {l : List Bool} (h : l.length = n) : wd n (tr l) = l := by
  refine List.ext_getElem? fun i => ?_
  by_cases hi : i < n
  · rw [wd_get hi]
    have hi' : i < l.length := by omega
    have e : l[i]? = some l[i] := List.getElem?_eq_getElem hi'
    rw [e]
    congr 1
    cases b : l[i] with
    | true => exact mem_true.mpr (tr_mem.mpr ⟨by omega, by rw [show ((i : Int)).toNat = i from rfl, e, b]⟩)
    | false =>
      refine mem_false.mpr fun z => ?_
      have := (tr_mem.mp z).2
      rw [show ((i : Int)).toNat = i from rfl, e, b] at this
      cases this
  · rw [List.getElem?_eq_none (by rw [wd_len]; omega), List.getElem?_eq_none (by omega)]
/-- the rest of the row, thing by thing -/
theorem wd_drop {n i : Nat} {ms : List Int} (h : i < n) : (wd n ms).drop i = mem ms i :: (wd n ms).drop (i + 1) := by
  rw [List.drop_eq_getElem?_toList_append, wd_get h]
  rfl
/-- a row is well closed just where the set has no loose member -/
theorem okW_iff {n : Nat} {ms : List Int} : ∀ (d i : Nat) (c : Int), n = i + d → (st (mem ms) i).aln = [] →
    (okW ((wd n ms).drop i) c (st (mem ms) i).wt.length ↔ (fin n ms).aln = [] ∧ c + (st (mem ms) i).prs.length = (fin n ms).prs.length)
  | 0, i, c, hn, ha => by
    have e : n = i := hn
    subst e
    rw [List.drop_of_length_le (by rw [wd_len]; exact Nat.le_refl _)]
    show c = 0 ↔ _
    constructor
    · intro h
      exact ⟨ha, by subst h; show (0 : Int) + ((fin n ms).prs.length : Int) = _; omega⟩
    · rintro ⟨_, h⟩
      have h : c + ((fin n ms).prs.length : Int) = _ := h
      omega
  | d + 1, i, c, hn, ha => by
    rw [wd_drop (n := n) (i := i) (by omega)]
    have e1 : st (mem ms) (i + 1) = stp (mem ms i) i (st (mem ms) i) := rfl
    cases hm : mem ms i with
    | false =>
      rw [hm, stp_no] at e1
      have ih := okW_iff (n := n) (ms := ms) d (i + 1) c (by omega) (by rw [e1]; exact ha)
      rw [e1] at ih
      dsimp only at ih
      rw [List.length_append, List.length_singleton] at ih
      exact ih
    | true =>
      rw [hm] at e1
      rcases snoc_cases (st (mem ms) i).wt with z | ⟨r, w, z⟩
      · rw [stp_alone z] at e1
        constructor
        · rintro ⟨h, _⟩
          rw [z] at h
          simp at h
        · rintro ⟨h, _⟩
          obtain ⟨d', hd⟩ : ∃ d', n = (i + 1) + d' := ⟨n - (i + 1), by omega⟩
          have pre := aln_mono (mem ms) (i + 1) d'
          rw [← hd, e1] at pre
          have : (fin n ms).aln = (st (mem ms) n).aln := rfl
          rw [this] at h
          rw [h] at pre
          have := List.prefix_nil.mp pre
          simp at this
      · rw [stp_pop z] at e1
        have ih := okW_iff (n := n) (ms := ms) d (i + 1) (c - 1) (by omega) (by rw [e1]; exact ha)
        rw [e1] at ih
        dsimp only at ih
        rw [List.length_append, List.length_singleton] at ih
        have el : (((st (mem ms) i).wt.length : Nat) : Int) - 1 = (r.length : Int) := by
          rw [z, List.length_append, List.length_singleton]
          omega
        show (1 ≤ _ ∧ okW _ (c - 1) (_ - 1)) ↔ _
        rw [el, ih]
        constructor
        · rintro ⟨_, h1, h2⟩
          exact ⟨h1, by omega⟩
        · rintro ⟨h1, h2⟩
          refine ⟨?_, h1, by omega⟩
          rw [z, List.length_append, List.length_singleton]
          omega
theorem ok_bottom {n : Nat} {ms : List Int} (h : IsSet n ms) {c : Int} : okW (wd n ms) c 0 ↔ (fin n ms).aln = [] ∧ c = ms.length := by
  have e := okW_iff (n := n) (ms := ms) n 0 c (by omega) rfl
  have l := set_len h
  rw [List.drop_zero] at e
  show okW (wd n ms) c ((0 : Nat) : Int) ↔ _
  refine e.trans ?_
  constructor
  · rintro ⟨h1, h2⟩
    rw [h1] at l
    have h2 : c + ((0 : Nat) : Int) = _ := h2
    simp only [List.length_nil] at l
    exact ⟨h1, by omega⟩
  · rintro ⟨h1, h2⟩
    rw [h1] at l
    refine ⟨h1, ?_⟩
    show c + ((0 : Nat) : Int) = _
    simp only [List.length_nil] at l
    omega
/-! ### the sizes -/
theorem ch_mono {n s : Nat} (h : 2 * (s + 1) ≤ n) : ch n s ≤ ch n (s + 1) := by
  have e := en_nn n ((s + 1 : Nat) : Int) 0 (by omega) (by omega)
  unfold en at e
  rw [show (((s + 1 : Nat) : Int) - 0 - 1) = (s : Int) by omega, picks_nat, picks_nat] at e
  omega
theorem ch_mono' {n s : Nat} : ∀ d : Nat, 2 * (s + d) ≤ n → ch n s ≤ ch n (s + d)
  | 0, _ => Nat.le_refl _
  | d + 1, h => Nat.le_trans (ch_mono' d (by omega)) (ch_mono (s := s + d) (by omega))
theorem ch_le_mid {n s : Nat} (h : s ≤ n / 2) : ch n s ≤ ch n (n / 2) := by
  obtain ⟨d, e⟩ : ∃ d, n / 2 = s + d := ⟨n / 2 - s, by omega⟩
  rw [e]
  exact ch_mono' d (by omega)
/-- the size of the bottom with a number -/
def szf (n : Nat) (N : Int) : Nat → Nat → Nat
  | 0, s => s
  | d + 1, s => if N < ch n s then s else szf n N d (s + 1)
def sz (n : Nat) (N : Int) : Nat := szf n N (n / 2) 0
theorem szf_spec {n : Nat} {N : Int} : ∀ (d s : Nat), s + d = n / 2 → N < ch n (n / 2) → (∀ t : Nat, t < s → (ch n t : Int) ≤ N) →
    szf n N d s ≤ n / 2 ∧ N < ch n (szf n N d s) ∧ ∀ t : Nat, t < szf n N d s → (ch n t : Int) ≤ N
  | 0, s, h, hN, hs => by
    have e : s = n / 2 := by omega
    show s ≤ _ ∧ N < ch n s ∧ _
    rw [e] at hs ⊢
    exact ⟨Nat.le_refl _, hN, hs⟩
  | d + 1, s, h, hN, hs => by
    unfold szf
    split
    · rename_i q
      exact ⟨by omega, q, hs⟩
    · rename_i q
      refine szf_spec d (s + 1) (by omega) hN fun t ht => ?_
      by_cases z : t = s
      · rw [z]
        omega
      · exact hs t (by omega)
theorem sz_spec {n : Nat} {N : Int} (hN : N < ch n (n / 2)) : sz n N ≤ n / 2 ∧ N < ch n (sz n N) ∧ ∀ t : Nat, t < sz n N → (ch n t : Int) ≤ N :=
  szf_spec (n / 2) 0 (by omega) hN fun t ht => absurd ht (by omega)
theorem sz_eq {n s : Nat} {N : Int} (h1 : N < ch n s) (h2 : ∀ t : Nat, t < s → (ch n t : Int) ≤ N) (hN : N < ch n (n / 2)) : sz n N = s := by
  obtain ⟨a, b, c⟩ := sz_spec hN
  rcases Nat.lt_trichotomy (sz n N) s with h | h | h
  · have := h2 _ h
    omega
  · exact h
  · have := c _ h
    omega
theorem en_top (n s : Nat) : en n s 0 = (ch n s : Int) - picks n ((s : Int) - 1) := by
  unfold en
  rw [picks_nat, show (s : Int) - 0 - 1 = (s : Int) - 1 by omega]
theorem pk_pred_le {n s : Nat} {N : Int} (h0 : 0 ≤ N) (h : ∀ t : Nat, t < s → (ch n t : Int) ≤ N) : picks n ((s : Int) - 1) ≤ N := by
  cases s with
  | zero =>
    rw [pk_neg (by omega)]
    exact h0
  | succ s =>
    rw [show (((s + 1 : Nat) : Int) - 1) = (s : Int) by omega, picks_nat]
    exact h s (by omega)
/-- the bottom of a chain -/
def bottomL (n : Nat) (N : Int) : List Int := tr (bw n (sz n N) 0 (N - picks n ((sz n N : Int) - 1)))
/-- its number -/
def numOf (n : Nat) (ms : List Int) : Int := picks n ((ms.length : Int) - 1) + nw (wd n ms) ms.length 0
theorem bottom_facts {n : Nat} {N : Int} (h0 : 0 ≤ N) (hN : N < ch n (n / 2)) : IsSet n (bottomL n N) ∧ (fin n (bottomL n N)).aln = [] ∧ (bottomL n N).length = sz n N ∧ numOf n (bottomL n N) = N := by
  obtain ⟨a, b, c⟩ := sz_spec hN
  have p := pk_pred_le h0 c
  have hk : N - picks n ((sz n N : Int) - 1) < en n (sz n N) 0 := by
    rw [en_top]
    omega
  obtain ⟨o1, o2⟩ := bw_ok n (sz n N) 0 (N - picks n ((sz n N : Int) - 1)) (by omega) (by omega) (by omega) hk
  have bl := bw_len n (sz n N) 0 (N - picks n ((sz n N : Int) - 1))
  have hs : IsSet n (bottomL n N) := by
    have := tr_set (bw n (sz n N) 0 (N - picks n ((sz n N : Int) - 1)))
    rw [bl] at this
    exact this
  have hw : wd n (bottomL n N) = bw n (sz n N) 0 (N - picks n ((sz n N : Int) - 1)) := wd_tr bl
  have ob := (ok_bottom hs (c := (sz n N : Int))).mp (by rw [hw]; exact o1)
  have el : (bottomL n N).length = sz n N := by have := ob.2; omega
  refine ⟨hs, ob.1, el, ?_⟩
  unfold numOf
  rw [el, hw, o2]
  omega
theorem num_facts {n : Nat} {ms : List Int} (h : IsSet n ms) (ha : (fin n ms).aln = []) : 0 ≤ numOf n ms ∧ numOf n ms < ch n (n / 2) ∧ sz n (numOf n ms) = ms.length ∧ bottomL n (numOf n ms) = ms := by
  have o := (ok_bottom h (c := (ms.length : Int))).mpr ⟨ha, rfl⟩
  obtain ⟨a, b, c⟩ := nw_ok (wd n ms) ms.length 0 (by omega) o
  have fe := okW_end (wd n ms) ms.length 0 (by omega) o
  rw [wd_len] at b c fe
  rw [en_top] at b
  have hs : ms.length ≤ n / 2 := by omega
  have hp : 0 ≤ picks n ((ms.length : Int) - 1) := by
    unfold picks
    split <;> omega
  have hN : numOf n ms < ch n ms.length := by
    unfold numOf
    omega
  have hm := ch_le_mid hs
  have lt : ∀ t : Nat, t < ms.length → (ch n t : Int) ≤ numOf n ms := fun t ht => by
    obtain ⟨d, hd⟩ : ∃ d, ms.length = t + d + 1 := ⟨ms.length - t - 1, by omega⟩
    have := ch_mono' (n := n) (s := t) d (by omega)
    have e : picks n ((ms.length : Int) - 1) = (ch n (t + d) : Int) := by
      rw [hd, show (((t + d + 1 : Nat) : Int) - 1) = ((t + d : Nat) : Int) by omega, picks_nat]
    unfold numOf
    omega
  have es : sz n (numOf n ms) = ms.length := sz_eq hN lt (by omega)
  refine ⟨?_, by omega, es, ?_⟩
  · unfold numOf
    omega
  · unfold bottomL
    rw [es]
    have e : numOf n ms - picks n ((ms.length : Int) - 1) = nw (wd n ms) ms.length 0 := by
      unfold numOf
      omega
    rw [e, c]
    exact tr_wd h
end SC
namespace SC
/-! ### the shares of a family without a clash -/
def fac : Nat → Nat
  | 0 => 1
  | n + 1 => (n + 1) * fac n
theorem fac_pos : ∀ n, 0 < fac n
  | 0 => by decide
  | n + 1 => Nat.mul_pos (by omega) (fac_pos n)
theorem ch_fac : ∀ n k : Nat, k ≤ n → ch n k * (fac k * fac (n - k)) = fac n
  | n, 0, _ => by
    rw [ch_zero]
    show 1 * (1 * fac (n - 0)) = fac n
    rw [Nat.one_mul, Nat.one_mul]
    rfl
  | 0, k + 1, h => absurd h (by omega)
  | n + 1, k + 1, h => by
    have e : n + 1 - (k + 1) = n - k := by omega
    rw [e]
    show (ch n k + ch n (k + 1)) * ((k + 1) * fac k * fac (n - k)) = (n + 1) * fac n
    have h1 := ch_fac n k (by omega)
    have a1 : ch n k * ((k + 1) * fac k * fac (n - k)) = (k + 1) * fac n := by
      rw [← h1]
      simp only [Nat.mul_assoc, Nat.mul_left_comm]
    by_cases hk : k = n
    · subst hk
      rw [ch_gt (show k < k + 1 by omega), Nat.add_zero, a1]
    · obtain ⟨d, hd⟩ : ∃ d, n - k = d + 1 := ⟨n - k - 1, by omega⟩
      have h2 := ch_fac n (k + 1) (by omega)
      have e3 : n - (k + 1) = d := by omega
      rw [e3] at h2
      have a2 : ch n (k + 1) * ((k + 1) * fac k * fac (n - k)) = (n - k) * fac n := by
        rw [hd, ← h2]
        show ch n (k + 1) * ((k + 1) * fac k * ((d + 1) * fac d)) = (d + 1) * (ch n (k + 1) * ((k + 1) * fac k * fac d))
        simp only [Nat.mul_assoc, Nat.mul_left_comm]
      rw [Nat.add_mul, a1, a2, ← Nat.add_mul]
      congr 1
      omega
/-- what one set weighs: so many ways go through it -/
def wgt (n : Nat) (A : List Int) : Nat := fac A.length * fac (n - A.length)
theorem sum_filter {α : Type} (f : α → Nat) (p : α → Bool) : ∀ F : List α, ((F.filter p).map f).sum = (F.map fun A => if p A = true then f A else 0).sum
  | [] => rfl
  | A :: F => by
    rw [List.filter_cons, List.map_cons, List.sum_cons, ← sum_filter f p F]
    split
    · rw [List.map_cons, List.sum_cons]
    · rw [Nat.zero_add]
theorem sum_add {α : Type} (f g : α → Nat) : ∀ F : List α, (F.map fun A => f A + g A).sum = (F.map f).sum + (F.map g).sum
  | [] => rfl
  | A :: F => by
    rw [List.map_cons, List.map_cons, List.map_cons, List.sum_cons, List.sum_cons, List.sum_cons, sum_add f g F]
    omega
theorem sum_congr {α : Type} {f g : α → Nat} : ∀ {F : List α}, (∀ A ∈ F, f A = g A) → (F.map f).sum = (F.map g).sum
  | [], _ => rfl
  | A :: F, h => by
    rw [List.map_cons, List.map_cons, List.sum_cons, List.sum_cons, h A (List.mem_cons_self ..), sum_congr fun B hB => h B (List.mem_cons_of_mem _ hB)]
theorem sum_le {α : Type} {f : α → Nat} {c : Nat} : ∀ {F : List α}, (∀ A ∈ F, f A ≤ c) → (F.map f).sum ≤ F.length * c
  | [], _ => by simp
  | A :: F, h => by
    rw [List.map_cons, List.sum_cons, List.length_cons, Nat.add_mul, Nat.one_mul]
    have := h A (List.mem_cons_self ..)
    have := sum_le fun B hB => h B (List.mem_cons_of_mem _ hB)
    omega
/-- counted by sets, or by the things that are not in them -/
theorem double (f : List Int → Nat) (F : List (List Int)) : ∀ S : List Int, (S.map fun x => ((F.filter fun A => !A.contains x).map f).sum).sum = (F.map fun A => f A * (S.filter fun x => !A.contains x).length).sum
  | [] => by
    have : (F.map fun A => f A * (([] : List Int).filter fun x => !A.contains x).length).sum = (F.map fun _ => 0).sum := sum_congr fun A _ => rfl
    rw [this]
    induction F with
    | nil => rfl
    | cons A F ih => rw [List.map_cons, List.sum_cons, Nat.zero_add]; exact ih (sum_congr fun A _ => rfl)
  | x :: S => by
    rw [List.map_cons, List.sum_cons, double f F S, sum_filter, ← sum_add]
    refine sum_congr fun A _ => ?_
    rw [List.filter_cons]
    split
    · rw [List.length_cons, Nat.mul_add]
      omega
    · omega
theorem filter_two (p : Int → Bool) : ∀ S : List Int, (S.filter p).length + (S.filter fun x => !p x).length = S.length
  | [] => rfl
  | x :: S => by
    have := filter_two p S
    rw [List.filter_cons, List.filter_cons, List.length_cons]
    cases h : p x with
    | true =>
      rw [if_pos rfl, if_neg (by decide), List.length_cons]
      omega
    | false =>
      rw [if_neg (by decide), if_pos (by rfl), List.length_cons]
      omega
theorem left_out {S A : List Int} (hS : S.Nodup) (hA : A.Nodup) (h : ∀ x ∈ A, x ∈ S) : (S.filter fun x => !A.contains x).length = S.length - A.length := by
  have e := filter_two (fun x => A.contains x) S
  have p : (S.filter fun x => A.contains x).Perm A := by
    refine (List.perm_ext_iff_of_nodup (hS.sublist (List.filter_sublist)) hA).mpr fun x => ?_
    rw [List.mem_filter, List.contains_iff_mem]
    exact ⟨fun z => z.2, fun z => ⟨h x z, z⟩⟩
  have := p.length_eq
  omega
def Apart (A B : List Int) : Prop := (¬ ∀ x ∈ A, x ∈ B) ∧ ¬ ∀ x ∈ B, x ∈ A
theorem sub_all {S A : List Int} (hA : A.Nodup) (h : ∀ x ∈ A, x ∈ S) (hl : S.length ≤ A.length) (hS : S.Nodup) : ∀ x ∈ S, x ∈ A := by
  have e := left_out hS hA h
  have z : (S.filter fun x => !A.contains x) = [] := List.length_eq_zero_iff.mp (by omega)
  intro x hx
  have := (List.filter_eq_nil_iff.mp z) x hx
  simpa using this
theorem lym : ∀ (n : Nat) (S : List Int) (F : List (List Int)), S.length = n → S.Nodup → F.Pairwise Apart → (∀ A ∈ F, A.Nodup ∧ ∀ x ∈ A, x ∈ S) → (F.map (wgt n)).sum ≤ fac n
  | n, S, [], _, _, _, _ => Nat.zero_le _
  | 0, S, [A], hS, _, _, h => by
    have e : S = [] := List.length_eq_zero_iff.mp hS
    subst e
    have hA : A = [] := List.eq_nil_iff_forall_not_mem.mpr fun x hx => nomatch (h A (List.mem_cons_self ..)).2 x hx
    subst hA
    decide
  | 0, S, A :: B :: F, hS, _, hp, h => by
    have e : S = [] := List.length_eq_zero_iff.mp hS
    subst e
    have := ((List.pairwise_cons.mp hp).1 B (List.mem_cons_self ..)).1
    exact absurd (fun x hx => nomatch (h A (List.mem_cons_self ..)).2 x hx) this
  | n + 1, S, F, hS, nd, hp, h => by
    by_cases full : ∃ A ∈ F, n + 1 ≤ A.length
    · obtain ⟨A, hA, hl⟩ := full
      have cov := sub_all (h A hA).1 (h A hA).2 (by omega) nd
      have one : F = [A] := by
        obtain ⟨P, R, e⟩ := List.append_of_mem hA
        subst e
        obtain ⟨_, h2, h3⟩ := List.pairwise_append.mp hp
        have hP : P = [] := List.eq_nil_iff_forall_not_mem.mpr fun B hB => by
          have := (h3 B hB A (List.mem_cons_self ..)).1
          exact this fun x hx => cov x ((h B (List.mem_append_left _ hB)).2 x hx)
        have hR : R = [] := List.eq_nil_iff_forall_not_mem.mpr fun B hB => by
          have := ((List.pairwise_cons.mp h2).1 B hB).2
          exact this fun x hx => cov x ((h B (List.mem_append_right _ (List.mem_cons_of_mem _ hB))).2 x hx)
        rw [hP, hR]
        rfl
      have le : A.length ≤ n + 1 := by
        have := left_out nd (h A hA).1 (h A hA).2
        have f := filter_two (fun x => A.contains x) S
        have p : (S.filter fun x => A.contains x).Perm A := by
          refine (List.perm_ext_iff_of_nodup (nd.sublist (List.filter_sublist)) (h A hA).1).mpr fun x => ?_
          rw [List.mem_filter, List.contains_iff_mem]
          exact ⟨fun z => z.2, fun z => ⟨(h A hA).2 x z, z⟩⟩
        have := p.length_eq
        omega
      rw [one]
      show wgt (n + 1) A + 0 ≤ _
      unfold wgt
      rw [show A.length = n + 1 by omega, Nat.sub_self]
      show fac (n + 1) * 1 + 0 ≤ _
      omega
    · have hlt : ∀ A ∈ F, A.length ≤ n := fun A hA => by
        by_cases z : A.length ≤ n
        · exact z
        · exact absurd ⟨A, hA, by omega⟩ full
      have e1 : (F.map (wgt (n + 1))).sum = (F.map fun A => wgt n A * (S.filter fun x => !A.contains x).length).sum := sum_congr fun A hA => by
        rw [left_out nd (h A hA).1 (h A hA).2, hS]
        unfold wgt
        obtain ⟨d, hd⟩ : ∃ d, n - A.length = d := ⟨_, rfl⟩
        have := hlt A hA
        rw [show n + 1 - A.length = d + 1 by omega, hd]
        show fac A.length * ((d + 1) * fac d) = fac A.length * fac d * (d + 1)
        simp only [Nat.mul_assoc, Nat.mul_comm]
      rw [e1, ← double]
      have := sum_le (F := S) (f := fun x => ((F.filter fun A => !A.contains x).map (wgt n)).sum) (c := fac n) fun x hx => by
        refine lym n (S.erase x) _ ?_ (nd.erase x) (hp.sublist List.filter_sublist) fun A hA => ?_
        · rw [List.length_erase_of_mem hx]
          omega
        · obtain ⟨hA1, hA2⟩ := List.mem_filter.mp hA
          have nx : x ∉ A := by simpa using hA2
          refine ⟨(h A hA1).1, fun y hy => ?_⟩
          have ne : y ≠ x := fun e => nx (e ▸ hy)
          exact (List.mem_erase_of_ne ne).mpr ((h A hA1).2 y hy)
      rw [hS] at this
      exact this
/-! ### the sum of the shares -/
/-- the two numbers -/
def sh (n : Nat) (F : List (List Int)) : Nat × Nat := F.foldl (fun p A => (p.1 * ch n A.length + p.2, p.2 * ch n A.length)) (0, 1)
theorem sh_snoc (n : Nat) (F : List (List Int)) (A : List Int) : sh n (F ++ [A]) = ((sh n F).1 * ch n A.length + (sh n F).2, (sh n F).2 * ch n A.length) := by
  unfold sh
  rw [List.foldl_append]
  rfl
theorem snoc_rec {α : Type} {P : List α → Prop} (h0 : P []) (hs : ∀ l x, P l → P (l ++ [x])) : ∀ l : List α, P l := fun l => by
  have : ∀ m : Nat, ∀ l : List α, l.length = m → P l := by
    intro m
    induction m with
    | zero =>
      intro l hl
      rw [List.length_eq_zero_iff.mp hl]
      exact h0
    | succ m ih =>
      intro l hl
      rcases snoc_cases l with z | ⟨r, w, z⟩
      · subst z
        cases hl
      · subst z
        rw [List.length_append, List.length_singleton] at hl
        exact hs r w (ih r (by omega))
  exact this l.length l rfl
theorem sh_pos {n : Nat} : ∀ F : List (List Int), (∀ A ∈ F, A.length ≤ n) → 0 < (sh n F).2 := by
  refine snoc_rec (fun _ => Nat.one_pos) (fun l A ih h => ?_)
  rw [sh_snoc]
  exact Nat.mul_pos (ih fun B hB => h B (List.mem_append_left _ hB)) (ch_pos (h A (List.mem_append_right _ (List.mem_singleton.mpr rfl))))
theorem sh_sum {n : Nat} : ∀ F : List (List Int), (∀ A ∈ F, A.length ≤ n) → (sh n F).1 * fac n = (sh n F).2 * (F.map (wgt n)).sum := by
  refine snoc_rec (fun _ => by show 0 * _ = 1 * 0; omega) (fun l A ih h => ?_)
  have ih := ih fun B hB => h B (List.mem_append_left _ hB)
  have hA := ch_fac n A.length (h A (List.mem_append_right _ (List.mem_singleton.mpr rfl)))
  rw [sh_snoc, List.map_append, List.sum_append]
  show ((sh n l).1 * ch n A.length + (sh n l).2) * fac n = (sh n l).2 * ch n A.length * (_ + (wgt n A + 0))
  rw [Nat.add_zero, Nat.add_mul, Nat.mul_add]
  have e1 : (sh n l).1 * ch n A.length * fac n = (sh n l).2 * ch n A.length * (l.map (wgt n)).sum := by
    rw [Nat.mul_right_comm, ih]
    simp only [Nat.mul_assoc, Nat.mul_comm]
  have e2 : (sh n l).2 * ch n A.length * wgt n A = (sh n l).2 * fac n := by
    rw [Nat.mul_assoc]
    unfold wgt
    rw [hA]
  rw [e1, e2]
theorem sh_bound {n b : Nat} (hb : ∀ k, ch n k ≤ b) (b1 : 1 ≤ b) : ∀ F : List (List Int), (sh n F).2 ≤ b ^ F.length ∧ (sh n F).1 ≤ F.length * b ^ F.length := by
  refine snoc_rec ⟨Nat.le_refl 1, Nat.zero_le _⟩ (fun l A ih => ?_)
  rw [sh_snoc, List.length_append, List.length_singleton, Nat.pow_succ]
  dsimp only
  have hc := hb A.length
  have hp : 0 < b ^ l.length := Nat.pow_pos (by omega)
  have g1 := Nat.mul_le_mul ih.1 hc
  have g2 := Nat.mul_le_mul ih.2 hc
  refine ⟨g1, ?_⟩
  have g3 : b ^ l.length ≤ b ^ l.length * b := Nat.le_mul_of_pos_right _ (by omega)
  rw [Nat.add_mul, Nat.one_mul, ← Nat.mul_assoc]
  omega
theorem share_le {n : Nat} {F : List (List Int)} (h : ∀ A ∈ F, IsSet n A) (hp : F.Pairwise Apart) : (sh n F).1 ≤ (sh n F).2 := by
  have hl : ∀ A ∈ F, A.length ≤ n := fun A hA => (h A hA).len
  have e := sh_sum F hl
  have l := lym n (irange n) F (irange_len n) (up_nodup (irange_up n)) hp fun A hA => ⟨up_nodup (h A hA).up, fun x hx => mem_irange.mpr ⟨(h A hA).lo x hx, (h A hA).hi x hx⟩⟩
  have := Nat.mul_le_mul_left (sh n F).2 l
  rw [← e] at this
  exact Nat.le_of_mul_le_mul_right this (fac_pos n)
theorem nohit_apart {rows : List (List Int)} (h : NoHit rows) : rows.Pairwise Apart := by
  refine List.pairwise_iff_getElem.mpr fun i j hi hj lt => ?_
  have f := h i j hi hj
  have g := h j i hj hi
  have e1 : rows[i]? = some rows[i] := List.getElem?_eq_getElem hi
  have e2 : rows[j]? = some rows[j] := List.getElem?_eq_getElem hj
  rw [hit_of e1 e2] at f
  rw [hit_of e2 e1] at g
  rw [show (i != j) = true by simp; omega, Bool.true_and] at f
  rw [show (j != i) = true by simp; omega, Bool.true_and] at g
  refine ⟨fun z => ?_, fun z => ?_⟩
  · rw [subL_iff.mpr z] at f
    cases f
  · rw [subL_iff.mpr z] at g
    cases g
end SC
namespace SC
/-! ### all sets; a family of more sets than chains -/
def allL : Nat → List (List Int)
  | 0 => [[]]
  | n + 1 => allL n ++ (allL n).map fun r => r ++ [(n : Int)]
theorem allL_len : ∀ n : Nat, (allL n).length = 2 ^ n
  | 0 => rfl
  | n + 1 => by
    show (allL n ++ (allL n).map fun r => r ++ [(n : Int)]).length = _
    rw [List.length_append, List.length_map, allL_len n, Nat.pow_succ]
    omega
theorem allL_set : ∀ {n : Nat} {r : List Int}, r ∈ allL n → IsSet n r
  | 0, r, h => by
    rw [List.mem_singleton.mp h]
    exact isSet_nil 0
  | n + 1, r, h => by
    rcases List.mem_append.mp h with h | h
    · have := allL_set h
      exact ⟨this.up, this.lo, fun x hx => by have := this.hi x hx; omega⟩
    · obtain ⟨s, hs, rfl⟩ := List.mem_map.mp h
      have := allL_set hs
      refine ⟨List.pairwise_append.mpr ⟨this.up, List.pairwise_singleton _ _, fun a ha b hb => ?_⟩, fun x hx => ?_, fun x hx => ?_⟩
      · rw [List.mem_singleton.mp hb]
        exact this.hi a ha
      · rcases List.mem_append.mp hx with hx | hx
        · exact this.lo x hx
        · rw [List.mem_singleton.mp hx]
          omega
      · rcases List.mem_append.mp hx with hx | hx
        · have := this.hi x hx
          omega
        · rw [List.mem_singleton.mp hx]
          omega
theorem allL_nd : ∀ n : Nat, (allL n).Nodup
  | 0 => by decide
  | n + 1 => by
    refine List.nodup_append.mpr ⟨allL_nd n, ?_, fun a ha b hb e => ?_⟩
    · refine List.pairwise_map.mpr ((allL_nd n).imp fun h e => h ?_)
      exact List.append_inj_left' e rfl
    · obtain ⟨s, hs, rfl⟩ := List.mem_map.mp hb
      have := (allL_set ha).hi n (by rw [e]; exact List.mem_append_right _ (List.mem_singleton.mpr rfl))
      omega
theorem allL_mem : ∀ {n : Nat} {r : List Int}, IsSet n r → r ∈ allL n
  | 0, r, h => by
    have : r = [] := List.eq_nil_iff_forall_not_mem.mpr fun x hx => by
      have := h.lo x hx
      have := h.hi x hx
      omega
    rw [this]
    exact List.mem_singleton.mpr rfl
  | n + 1, r, h => by
    by_cases hn : (n : Int) ∈ r
    · have e : r = r.filter (fun y => decide (y < (n : Int))) ++ [(n : Int)] := by
        have := up_filter_succ h.up hn
        rw [← this]
        exact (List.filter_eq_self.mpr fun x hx => decide_eq_true (h.hi x hx)).symm
      rw [e]
      refine List.mem_append_right _ (List.mem_map.mpr ⟨_, allL_mem ⟨up_filter h.up _, fun x hx => h.lo x (List.mem_filter.mp hx).1, fun x hx => of_decide_eq_true (List.mem_filter.mp hx).2⟩, rfl⟩)
    · refine List.mem_append_left _ (allL_mem ⟨h.up, h.lo, fun x hx => ?_⟩)
      have := h.hi x hx
      have ne : x ≠ (n : Int) := fun e => hn (e ▸ hx)
      omega
/-- those of one size -/
def halfL (n k : Nat) : List (List Int) := (allL n).filter fun r => r.length == k
theorem halfL_len : ∀ n k : Nat, (halfL n k).length = ch n k
  | 0, 0 => rfl
  | 0, k + 1 => rfl
  | n + 1, k => by
    have e : halfL (n + 1) k = halfL n k ++ ((allL n).filter fun r => r.length + 1 == k).map fun r => r ++ [(n : Int)] := by
      unfold halfL
      show (allL n ++ (allL n).map fun r => r ++ [(n : Int)]).filter _ = _
      rw [List.filter_append, List.filter_map]
      congr 2
      refine List.filter_congr fun r _ => ?_
      show ((r ++ [(n : Int)]).length == k) = _
      rw [List.length_append, List.length_singleton]
    rw [e, List.length_append, List.length_map, halfL_len n k]
    cases k with
    | zero =>
      have : ((allL n).filter fun r => r.length + 1 == 0) = [] := List.filter_eq_nil_iff.mpr fun r _ => by simp
      rw [this, ch_zero, ch_zero]
      rfl
    | succ k =>
      have e2 : ((allL n).filter fun r => r.length + 1 == k + 1) = halfL n k := List.filter_congr fun r _ => by simp
      rw [e2, halfL_len n k]
      show _ = ch n k + ch n (k + 1)
      omega
theorem halfL_mem {n k : Nat} {r : List Int} (h : r ∈ halfL n k) : IsSet n r ∧ r.length = k := by
  obtain ⟨h1, h2⟩ := List.mem_filter.mp h
  exact ⟨allL_set h1, by simpa using h2⟩
theorem halfL_nd (n k : Nat) : (halfL n k).Nodup := (allL_nd n).sublist List.filter_sublist
theorem same_size {n : Nat} {r t : List Int} (hr : IsSet n r) (ht : IsSet n t) (hl : r.length = t.length) (h : ∀ x ∈ r, x ∈ t) : r = t := by
  have := sub_all (S := t) (A := r) (up_nodup hr.up) h (by omega) (up_nodup ht.up)
  exact up_ext hr.up ht.up fun x => ⟨h x, this x⟩
/-- sets of one size have no clash -/
theorem one_size {n k : Nat} {rows : List (List Int)} (h : ∀ r ∈ rows, IsSet n r ∧ r.length = k) (nd : rows.Nodup) : NoHit rows := by
  intro i j hi hj
  have e1 : rows[i]? = some rows[i] := List.getElem?_eq_getElem hi
  have e2 : rows[j]? = some rows[j] := List.getElem?_eq_getElem hj
  rw [hit_of e1 e2]
  by_cases e : i = j
  · subst e
    simp
  · have hs : subL rows[i] rows[j] = false := by
      cases z : subL rows[i] rows[j] with
      | false => rfl
      | true =>
        have a := h _ (List.getElem_mem hi)
        have b := h _ (List.getElem_mem hj)
        have := same_size a.1 b.1 (by omega) (subL_iff.mp z)
        have pw := List.pairwise_iff_getElem.mp nd
        rcases Nat.lt_or_ge i j with l | l
        · exact absurd this (pw i j hi hj l)
        · exact absurd this.symm (pw j i hj hi (by omega))
    rw [hs, Bool.and_false]
theorem cset_sub {n : Nat} {ms : List Int} {i j : Nat} (h : i ≤ j) : ∀ x ∈ cset n ms i, x ∈ cset n ms j := fun x hx => by
  obtain ⟨a, b | b⟩ := cset_mem.mp hx
  · refine cset_mem.mpr ⟨a, .inl ⟨b.1, ?_⟩⟩
    have e : (loo n ms).take i = ((loo n ms).take j).take i := by rw [List.take_take, Nat.min_eq_left h]
    rw [e] at b
    exact List.mem_of_mem_take b.2
  · exact cset_mem.mpr ⟨a, .inr b⟩
/-- two sets of one chain: one lies within the other -/
theorem chain_apart {n : Nat} {A B : List Int} (hA : IsSet n A) (hB : IsSet n B) (e : cset n A 0 = cset n B 0) : ¬ Apart A B := by
  have a := cset_self hA
  have b := cset_self hB
  rw [← cset_cset n A 0, e] at a
  rw [← cset_cset n B 0] at b
  rintro ⟨h1, h2⟩
  rcases Nat.le_total (fin n A).aln.length (fin n B).aln.length with h | h
  · have := cset_sub (n := n) (ms := cset n B 0) h
    rw [a, b] at this
    exact h1 this
  · have := cset_sub (n := n) (ms := cset n B 0) h
    rw [a, b] at this
    exact h2 this
theorem few {l : List Int} {t : Nat} (nd : l.Nodup) (h : ∀ x ∈ l, 0 ≤ x ∧ x < t) : l.length ≤ t := by
  have : IsSet t (isort l) := ⟨isort_up nd, fun x hx => (h x (isort_mem.mp hx)).1, fun x hx => (h x (isort_mem.mp hx)).2⟩
  have := this.len
  rw [isort_len] at this
  exact this
/-- a family without a clash has at most as many sets as there are chains -/
theorem crowd {n : Nat} {F : List (List Int)} (h : ∀ A ∈ F, IsSet n A) (hn : NoHit F) : F.length ≤ ch n (n / 2) := by
  have ap := nohit_apart hn
  have bot : ∀ A : List Int, IsSet n (cset n A 0) ∧ (fin n (cset n A 0)).aln = [] := fun A => ⟨cset_set n A 0, by rw [cset_fin]; rfl⟩
  have nd : (F.map fun A => numOf n (cset n A 0)).Nodup := by
    refine List.pairwise_map.mpr (List.Pairwise.imp_of_mem (fun {A B} hA hB q e => ?_) ap)
    have f1 := num_facts (bot A).1 (bot A).2
    have f2 := num_facts (bot B).1 (bot B).2
    have e2 : cset n A 0 = cset n B 0 := by
      rw [← f1.2.2.2, ← f2.2.2.2, e]
    exact chain_apart (h A hA) (h B hB) e2 q
  have := few nd (t := ch n (n / 2)) fun x hx => by
    obtain ⟨A, _, rfl⟩ := List.mem_map.mp hx
    have f1 := num_facts (bot A).1 (bot A).2
    exact ⟨f1.1, f1.2.1⟩
  rw [List.length_map] at this
  exact this
end SC
namespace SC
/-! ### how many bottoms there are -/
/-- each once, in the order in which they are met -/
def ded (l : List (List Int)) : List (List Int) := l.foldl (fun ks m => if m ∈ ks then ks else ks ++ [m]) []
theorem ded_snoc (l : List (List Int)) (m : List Int) : ded (l ++ [m]) = if m ∈ ded l then ded l else ded l ++ [m] := by
  unfold ded
  rw [List.foldl_append]
  rfl
theorem ded_mem : ∀ (l : List (List Int)) (x : List Int), x ∈ ded l ↔ x ∈ l := by
  refine snoc_rec (P := fun l => ∀ x, x ∈ ded l ↔ x ∈ l) (fun _ => Iff.rfl) fun l m ih x => ?_
  rw [ded_snoc, List.mem_append, List.mem_singleton]
  by_cases h : m ∈ ded l
  · rw [if_pos h, ih]
    constructor
    · exact .inl
    · rintro (z | z)
      · exact z
      · rw [z]
        exact (ih m).mp h
  · rw [if_neg h, List.mem_append, List.mem_singleton, ih]
theorem ded_nd : ∀ l : List (List Int), (ded l).Nodup := by
  refine snoc_rec (P := fun l => (ded l).Nodup) List.nodup_nil fun l m ih => ?_
  rw [ded_snoc]
  by_cases h : m ∈ ded l
  · rw [if_pos h]
    exact ih
  · rw [if_neg h]
    refine List.nodup_append.mpr ⟨ih, by simp, fun a ha b hb e => ?_⟩
    rw [List.mem_singleton] at hb
    subst hb e
    exact h ha
/-- there are as many bottoms as sets of the middle size -/
theorem ded_len (n : Nat) : (ded ((allL n).map fun r => cset n r 0)).length = ch n (n / 2) := by
  have p : (ded ((allL n).map fun r => cset n r 0)).Perm ((irange (ch n (n / 2))).map (bottomL n)) := by
    refine (List.perm_ext_iff_of_nodup (ded_nd _) ?_).mpr fun x => ?_
    · refine List.pairwise_map.mpr (List.Pairwise.imp_of_mem (fun {a b} ha hb ne e => ne ?_) (up_nodup (irange_up _)))
      have a1 := mem_irange.mp ha
      have b1 := mem_irange.mp hb
      have f := (bottom_facts a1.1 a1.2).2.2.2
      have g := (bottom_facts b1.1 b1.2).2.2.2
      rw [← f, ← g, e]
    · rw [ded_mem, List.mem_map, List.mem_map]
      constructor
      · rintro ⟨r, hr, rfl⟩
        have f := num_facts (cset_set n r 0) (by rw [cset_fin]; rfl)
        exact ⟨_, mem_irange.mpr ⟨f.1, f.2.1⟩, f.2.2.2⟩
      · rintro ⟨N, hN, rfl⟩
        have a1 := mem_irange.mp hN
        have f := bottom_facts a1.1 a1.2
        refine ⟨bottomL n N, allL_mem f.1, ?_⟩
        have := cset_self f.1
        rw [f.2.1] at this
        exact this
  rw [p.length_eq, List.length_map, irange_len]
/-- each set stands just once on its chain -/
theorem chain_nd (n : Nat) (ms : List Int) : (chainL n ms).Nodup := by
  unfold chainL
  refine List.pairwise_map.mpr (List.Pairwise.imp_of_mem (fun {i j} hi hj ne e => ne ?_) List.nodup_range)
  have l := congrArg List.length e
  have := List.mem_range.mp hi
  have := List.mem_range.mp hj
  rw [cset_len (by omega), cset_len (by omega)] at l
  omega
theorem count_one {l : List (List Int)} {r : List Int} (nd : l.Nodup) (h : r ∈ l) : l.countP (fun x => decide (x = r)) = 1 := by
  induction l with
  | nil => exact nomatch h
  | cons x l ih =>
    obtain ⟨h1, h2⟩ := List.nodup_cons.mp nd
    rw [List.countP_cons]
    by_cases e : x = r
    · subst e
      have z : l.countP (fun y => decide (y = x)) = 0 := List.countP_eq_zero.mpr fun y hy => by
        have : y ≠ x := fun e => h1 (e ▸ hy)
        simpa using this
      rw [z, if_pos (decide_eq_true rfl)]
    · rw [if_neg (by simpa using e), ih h2 ((List.mem_cons.mp h).resolve_left fun z => e z.symm)]
end SC
namespace SC
open PySem PySem.Spec PyProof.Rows L2
/-! ### what stands behind the top -/
def At (K : PySem.W.Frag) (mg : Str → Option Value) (x : Str) (st : Stmt) : Prop := ∃ (f : Addr) (fd : FuncData), Fun K x x st f fd ∧ mg x = some (.ref f)
structure Def (P : Program) (w : World) (K : PySem.W.Frag) (mg : Str → Option Value) (base : Heap) (CX : CXT) (k : Nat) (x : Str) (ps : List Str) (sp : Sp) : Prop where
  ex : ∃ (f : Addr) (fd : FuncData), FnOk P w K mg base CX k f fd ps sp ∧ mg x = some (.ref f) ∧ PySem.W.keepIn K (.ref f) = true ∧ Binds K fd ps []
/-- an exception class of the program's own -/
structure XT (K : PySem.W.Frag) (mg : Str → Option Value) (n : Str) (C : Addr) : Prop where
  g : mg n = some (.ref C)
  x : PySem.W.excIn K C [.type "ValueError", .type "Exception", .type "BaseException", .type "object"] "ValueError.__new__" = true
  k : PySem.W.keepIn K (.ref C) = true
  b : PySem.W.subIn K (.ref C) (.type "BaseException") = some true
  t : PySem.W.typeIn K (.ref C) = some (.type "type")
/-- the built-in names, the module's constant -/
structure Bt (mg : Str → Option Value) (tM : Tok) : Prop where
  len : mg "len" = none
  range : mg "range" = none
  sorted : mg "sorted" = none
  isinstance : mg "isinstance" = none
  int : mg "int" = none
  bool : mg "bool" = none
  list : mg "list" = none
  tuple : mg "tuple" = none
  str : mg "str" = none
  sum : mg "sum" = none
  all : mg "all" = none
  min : mg "min" = none
  max : mg "max" = none
  ValueError : mg "ValueError" = none
  MOST : mg "MOST" = some (.int 40 tM)
theorem sz_le {n : Nat} (h : n ≤ 100000) : n ≤ sizeLine := Nat.le_trans h (by decide)
theorem sz_lt {n : Nat} (h : n < 100000) : n < sizeLine := Nat.lt_of_lt_of_le h (by decide)
theorem inD_u {A : Around} {k : Nat} (r : Room k A) : A.units + 65 < cLine := by have := r.un; omega
/-- new: nothing that was tracked is changed -/
theorem same_new {H : Hp} {p : Addr} {o : HO} (h : H p = none) : Same H (upd H p o) := fun b x e => by
  rw [upd_ne (ne_of_none e h)]
  exact e
/-- what was not tracked ahead may change -/
theorem same_mut {H H' : Hp} {p : Addr} {o : HO} (s : Same H H') (h : H p = none) : Same H (upd H' p o) := fun b x e => by
  rw [upd_ne (ne_of_none e h)]
  exact s b x e
theorem tyes {σ : L2.St} {H : Hp} {Q : Bool → Hp → Prop} (h : Q true H) : tYes σ H Q := h
theorem at_int {l : List Int} {i : Nat} {v : Int} (h : l[i]? = some v) : (l.map V.int)[i]? = some (.int v) := by
  rw [List.getElem?_map, h]
  rfl
theorem at_map {l : List Int} {i : Nat} {y : V} (h : (l.map V.int)[i]? = some y) : ∃ v, l[i]? = some v ∧ y = .int v := by
  rw [List.getElem?_map] at h
  cases e : l[i]? with
  | none => rw [e] at h; cases h
  | some v =>
    rw [e] at h
    exact ⟨v, rfl, (Option.some.inj h).symm⟩
theorem atI_int {l : List Int} {z : Int} {i : Nat} {v : Int} (e : z = (i : Int)) (h : l[i]? = some v) : atI (l.map V.int) z = some (.int v) := by
  rw [e]
  exact atI_nat (at_int h)
theorem take_snoc {α : Type} {l : List α} {i : Nat} {x : α} (h : l[i]? = some x) : l.take (i + 1) = l.take i ++ [x] := by
  rw [List.take_add_one, h]
  rfl
/-! ### dicts used as sets of ints -/
def KD (H : Hp) (d : Addr) (l : List Int) : Prop := ∃ kvs : List (Key × V), H d = some (.dK kvs) ∧ kvs.length ≤ l.length ∧ ∀ x : Int, (valV kvs (Sum.inl x)).isSome = l.contains x
theorem KD.nil {H : Hp} {d : Addr} (h : H d = some (.dK [])) : KD H d [] := ⟨[], h, Nat.le_refl _, fun _ => rfl⟩
theorem KD.get {H : Hp} {d : Addr} {l : List Int} (h : KD H d l) (x : Int) : ∃ o, DGet H d (.int x) o ∧ o.isSome = l.contains x := by
  obtain ⟨kvs, h1, _, h3⟩ := h
  exact ⟨_, DGet.k (k := Sum.inl x) h1, h3 x⟩
theorem KD.put {H : Hp} {d : Addr} {l : List Int} (h : KD H d l) (hl : l.length ≤ 1000) (x : Int) (v : V) : ∃ o, DPut H d (.int x) v (upd H d o) ∧ ∀ H' : Hp, H' d = some o → KD H' d (l ++ [x]) := by
  obtain ⟨kvs, h1, h2, h3⟩ := h
  refine ⟨_, DPut.k (k := Sum.inl x) h1 (sz_lt (by omega)), fun H' e => ⟨_, e, ?_, fun y => ?_⟩⟩
  · have := length_putK kvs (Sum.inl x) v
    rw [List.length_append, List.length_singleton]
    omega
  · rw [valV_put, List.contains_append]
    by_cases e : y = x
    · subst e
      rw [if_pos rfl]
      simp
    · rw [if_neg (fun z => e (Sum.inl.inj z)), h3]
      simp [e]
theorem KD.same {H H' : Hp} {d : Addr} {l : List Int} (h : KD H d l) (s : Same H H') : KD H' d l := by
  obtain ⟨kvs, h1, h2⟩ := h
  exact ⟨kvs, s _ _ h1, h2⟩
theorem KD.at {H H' : Hp} {d : Addr} {l : List Int} (h : KD H d l) (e : H' d = H d) : KD H' d l := by
  obtain ⟨kvs, h1, h2⟩ := h
  exact ⟨kvs, e.trans h1, h2⟩
theorem KD.ne {H : Hp} {d : Addr} {l : List Int} (h : KD H d l) {p : Addr} (n : H p = none) : d ≠ p := by
  obtain ⟨kvs, h1, _⟩ := h
  exact ne_of_none h1 n
/-! ### x in a list of ints -/
theorem flat_ints : ∀ ns : List Int, (ns.map V.int).all flatV = true
  | [] => rfl
  | n :: r => by rw [List.map_cons, List.all_cons, flat_ints r]; rfl
theorem inV_ints (x : Int) : ∀ ns : List Int, inV (.int x) (ns.map V.int) = ns.contains x
  | [] => rfl
  | n :: r => by
    have ih := inV_ints x r
    unfold inV at *
    rw [List.map_cons, List.any_cons, ih, List.contains_cons]
    congr 1
    show (n == x) = (x == n)
    by_cases h : x = n
    · subst h
      rfl
    · rw [beq_eq_false_iff_ne.mpr h, beq_eq_false_iff_ne.mpr (fun z => h z.symm)]
/-! ### lists of pairs -/
/-- the tuples at ts hold the pairs ps -/
def Tups (H : Hp) (ts : List Addr) (ps : List (Int × Int)) : Prop := Paired (fun t q => H t = some (.tup [.int q.1, .int q.2])) ts ps
theorem Tups.same {H H' : Hp} {ts : List Addr} {ps : List (Int × Int)} (h : Tups H ts ps) (s : Same H H') : Tups H' ts ps := Paired.mapP h fun _ _ e => s _ _ e
theorem Tups.snoc {H : Hp} {ts : List Addr} {ps : List (Int × Int)} {t : Addr} {q : Int × Int} (h : Tups H ts ps) (e : H t = some (.tup [.int q.1, .int q.2])) : Tups H (ts ++ [t]) (ps ++ [q]) := Paired.snoc h e
/-- what is no tuple may change -/
theorem Tups.upd {H : Hp} {ts : List Addr} {ps : List (Int × Int)} {p : Addr} {xs : List V} {o : HO} (h : Tups H ts ps) (e : H p = some (.lst xs)) : Tups (upd H p o) ts ps :=
  Paired.mapP h fun _ _ q => by rw [upd_ne (ne_of q e (by intro z; cases z))]; exact q
theorem Tups.len {H : Hp} {ts : List Addr} {ps : List (Int × Int)} (h : Tups H ts ps) : ts.length = ps.length := Paired.length h
theorem Tups.get {H : Hp} {ts : List Addr} {ps : List (Int × Int)} (h : Tups H ts ps) {i : Nat} {q : Int × Int} (e : ps[i]? = some q) : ∃ t, ts[i]? = some t ∧ H t = some (.tup [.int q.1, .int q.2]) := by
  have hl := h.len
  have hi : i < ts.length := by
    have := (List.getElem?_eq_some_iff.mp e).1
    omega
  refine ⟨ts[i], List.getElem?_eq_getElem hi, ?_⟩
  obtain ⟨q', e', hq⟩ := paired_get h (List.getElem?_eq_getElem hi)
  rw [e] at e'
  cases e'
  exact hq
/-- which pair lies at a tuple -/
def pairAt (H : Hp) : V → Int × Int
  | .ref t => match H t with
    | some (.tup [.int i, .int j]) => (i, j)
    | _ => (0, 0)
  | _ => (0, 0)
theorem pairAt_of {H : Hp} {t : Addr} {q : Int × Int} (e : H t = some (.tup [.int q.1, .int q.2])) : pairAt H (.ref t) = q := by
  unfold pairAt
  simp only [e]
theorem Tups.map {H : Hp} : ∀ {ts : List Addr} {ps : List (Int × Int)}, Tups H ts ps → (ts.map V.ref).map (pairAt H) = ps
  | _, _, .nil => rfl
  | _, _, .cons h t => by
    rw [List.map_cons, List.map_cons, pairAt_of h, Tups.map t]
theorem Tups.all {H : Hp} : ∀ {ts : List Addr} {ps : List (Int × Int)}, Tups H ts ps → ∀ x ∈ ts.map V.ref, ∃ t, x = V.ref t ∧ H t = some (.tup [.int (pairAt H x).1, .int (pairAt H x).2])
  | _, _, .nil, _, h => nomatch h
  | _, _, .cons h t, x, hx => by
    rw [List.map_cons] at hx
    rcases List.mem_cons.mp hx with e | e
    · subst e
      refine ⟨_, rfl, ?_⟩
      rw [pairAt_of h]
      exact h
    · exact Tups.all t x e
theorem tups_of {H : Hp} : ∀ (xs : List V), (∀ x ∈ xs, ∃ t, x = V.ref t ∧ H t = some (.tup [.int (pairAt H x).1, .int (pairAt H x).2])) → ∃ ts, xs = ts.map V.ref ∧ Tups H ts (xs.map (pairAt H))
  | [], _ => ⟨[], rfl, .nil⟩
  | x :: r, h => by
    obtain ⟨t, e, q⟩ := h x (List.mem_cons_self ..)
    obtain ⟨ts, e2, q2⟩ := tups_of r fun y hy => h y (List.mem_cons_of_mem _ hy)
    subst e
    exact ⟨t :: ts, by rw [e2]; rfl, .cons q q2⟩
/-- sorted of a list of pairs -/
def rSortedQ (K : PySem.W.Frag) : List V → Hp → VK → Prop := fun vs H Q => ∃ (a : Addr) (ts : List Addr) (ps : List (Int × Int)), vs = [V.ref a] ∧ SqL K H a (ts.map V.ref) ∧ Tups H ts ps ∧
  ∀ (p : Addr) (ts' : List Addr), H p = none → Tups H ts' (psort ps) → Q (.ref p) (upd H p (.lst (ts'.map V.ref)))
theorem cr_sortedQ {X : Cx} : CallR X (.builtin "sorted") (rSortedQ X.K) := by
  intro pins s σ H vs us Q I r h
  obtain ⟨a, ts, ps, rfl, hs, ht, q⟩ := h
  refine cr_sortedPO pins s σ H _ us Q I r ⟨a, ts.map V.ref, pairAt H, rfl, hs, ht.all, fun ys p srt stb np => ?_⟩
  have hp := stb.perm
  obtain ⟨ts', e, t'⟩ := tups_of (H := H) ys fun x hx => ht.all x (hp.mem_iff.mp hx)
  have es : ys.map (pairAt H) = psort ps := by
    refine psort_uniq ?_ ?_
    · refine List.pairwise_map.mpr (srt.imp fun {x y} h => ?_)
      have := SrtO.lexB_no.mp h
      unfold leP
      simp only [decide_eq_true_eq]
      omega
    · have := hp.map (pairAt H)
      rw [ht.map] at this
      exact this
  rw [es] at t'
  subst e
  exact q p ts' np t'
/-- sorted of a list of ints -/
def rSortedJ (K : PySem.W.Frag) : List V → Hp → VK → Prop := fun vs H Q => ∃ (a : Addr) (ns : List Int), vs = [V.ref a] ∧ SqL K H a (ns.map V.int) ∧ ∀ p, H p = none → Q (.ref p) (upd H p (.lst ((isort ns).map V.int)))
theorem cr_sortedJ {X : Cx} : CallR X (.builtin "sorted") (rSortedJ X.K) := by
  intro pins s σ H vs us Q I r h
  obtain ⟨a, ns, rfl, hs, q⟩ := h
  refine cr_sortedI pins s σ H _ us Q I r ⟨a, ns, rfl, hs, fun ns' p hp srt np => ?_⟩
  rw [isort_uniq srt hp]
  exact q p np
/-! ### data: lists of ints, pairs, lists of lists -/
def dI (ns : List Int) : PyData := .list (ns.map PyData.int)
def dT (q : Int × Int) : PyData := .tuple [.int q.1, .int q.2]
def dL (rows : List (List Int)) : PyData := .list (rows.map dI)
theorem ints_lay : ∀ ns : List Int, PyData.canLayAll0 (ns.map PyData.int) = true
  | [] => rfl
  | n :: r => by simp [PyData.canLayAll0, PyData.canLay0, ints_lay r]
theorem ints_depth : ∀ ns : List Int, PyData.depthAll (ns.map PyData.int) = 0
  | [] => rfl
  | n :: r => by simp [PyData.depthAll, PyData.depth, ints_depth r]
theorem dI_lay (ns : List Int) : PyData.canLay0 (dI ns) = true := by
  unfold dI
  simp only [PyData.canLay0]
  exact ints_lay ns
theorem dI_depth (ns : List Int) : PyData.depth (dI ns) ≤ 1 := by
  unfold dI
  simp only [PyData.depth]
  rw [ints_depth]
  omega
theorem dI_shaped (ns : List Int) : SeqAt.shaped (dI ns) = true := by
  unfold SeqAt.shaped
  rw [Bool.and_eq_true]
  exact ⟨dI_lay ns, decide_eq_true (Nat.le_trans (dI_depth ns) (by decide))⟩
theorem dT_shaped (q : Int × Int) : SeqAt.shaped (dT q) = true := by
  unfold SeqAt.shaped dT
  rw [Bool.and_eq_true]
  exact ⟨by simp [PyData.canLay0, PyData.canLayAll0], decide_eq_true (by simp [PyData.depth, PyData.depthAll])⟩
theorem dLs_lay : ∀ rs : List (List Int), PyData.canLayAll0 (rs.map dI) = true
  | [] => rfl
  | n :: r => by simp [PyData.canLayAll0, dI_lay n, dLs_lay r]
theorem dLs_depth : ∀ rs : List (List Int), PyData.depthAll (rs.map dI) ≤ 1
  | [] => by simp [PyData.depthAll]
  | n :: r => by
    have h1 := dI_depth n
    have h2 := dLs_depth r
    simp only [List.map_cons, PyData.depthAll]
    omega
theorem dL_shaped (rs : List (List Int)) : SeqAt.shaped (dL rs) = true := by
  unfold SeqAt.shaped dL
  rw [Bool.and_eq_true]
  refine ⟨by simp only [PyData.canLay0]; exact dLs_lay rs, decide_eq_true ?_⟩
  have h := dLs_depth rs
  simp only [PyData.depth]
  omega
theorem ints_eqv : ∀ a b : List Int, PyData.eqvAll (a.map PyData.int) (b.map PyData.int) = decide (a = b)
  | [], [] => by simp [PyData.eqvAll]
  | [], y :: b => by simp [PyData.eqvAll]
  | x :: a, [] => by simp [PyData.eqvAll]
  | x :: a, y :: b => by
    simp only [List.map_cons, PyData.eqvAll, PyData.eqv, ints_eqv a b]
    by_cases h : x = y
    · subst h
      simp
    · simp [h]
theorem dI_eqv (a b : List Int) : PyData.eqv (dI a) (dI b) = decide (a = b) := by
  unfold dI
  simp only [PyData.eqv]
  exact ints_eqv a b
theorem dT_eqv (p q : Int × Int) : PyData.eqv (dT p) (dT q) = decide (p = q) := by
  obtain ⟨a, b⟩ := p
  obtain ⟨c, d⟩ := q
  unfold dT
  simp only [PyData.eqv, PyData.eqvAll]
  by_cases h1 : a = c
  · by_cases h2 : b = d
    · subst h1 h2
      simp
    · simp [h1, h2]
  · simp [h1]
theorem dLs_eqv : ∀ a b : List (List Int), PyData.eqvAll (a.map dI) (b.map dI) = decide (a = b)
  | [], [] => by simp [PyData.eqvAll]
  | [], y :: b => by simp [PyData.eqvAll]
  | x :: a, [] => by simp [PyData.eqvAll]
  | x :: a, y :: b => by
    simp only [List.map_cons, PyData.eqvAll, dI_eqv, dLs_eqv a b]
    by_cases h : x = y
    · subst h
      simp
    · simp [h]
theorem dL_eqv (a b : List (List Int)) : PyData.eqv (dL a) (dL b) = decide (a = b) := by
  unfold dL
  simp only [PyData.eqv]
  exact dLs_eqv a b
def dP (ps : List (Int × Int)) : PyData := .list (ps.map dT)
theorem dTs_lay : ∀ ps : List (Int × Int), PyData.canLayAll0 (ps.map dT) = true
  | [] => rfl
  | n :: r => by simp [PyData.canLayAll0, PyData.canLay0, dT, dTs_lay r]
theorem dTs_depth : ∀ ps : List (Int × Int), PyData.depthAll (ps.map dT) ≤ 1
  | [] => by simp [PyData.depthAll]
  | n :: r => by
    have h2 := dTs_depth r
    have h1 : PyData.depth (dT n) ≤ 1 := by simp [dT, PyData.depth, PyData.depthAll]
    simp only [List.map_cons, PyData.depthAll]
    omega
theorem dP_shaped (ps : List (Int × Int)) : SeqAt.shaped (dP ps) = true := by
  unfold SeqAt.shaped dP
  rw [Bool.and_eq_true]
  refine ⟨by simp only [PyData.canLay0]; exact dTs_lay ps, decide_eq_true ?_⟩
  have h := dTs_depth ps
  simp only [PyData.depth]
  omega
theorem dTs_eqv : ∀ a b : List (Int × Int), PyData.eqvAll (a.map dT) (b.map dT) = decide (a = b)
  | [], [] => by simp [PyData.eqvAll]
  | [], y :: b => by simp [PyData.eqvAll]
  | x :: a, [] => by simp [PyData.eqvAll]
  | x :: a, y :: b => by
    simp only [List.map_cons, PyData.eqvAll, dT_eqv, dTs_eqv a b]
    by_cases h : x = y
    · subst h
      simp
    · simp [h]
theorem dP_eqv (a b : List (Int × Int)) : PyData.eqv (dP a) (dP b) = decide (a = b) := by
  unfold dP
  simp only [PyData.eqv]
  exact dTs_eqv a b
theorem dp_ints {K : PySem.W.Frag} {H : Hp} : ∀ ns : List Int, DpAll K H (ns.map V.int) (ns.map PyData.int)
  | [] => .nil
  | n :: r => .cons (.int n) (dp_ints r)
theorem dp_I {K : PySem.W.Frag} {H : Hp} {a : Addr} {ns : List Int} (h : SqL K H a (ns.map V.int)) : Dp K H (.ref a) (dI ns) := .lst h (dp_ints ns)
theorem dp_T {K : PySem.W.Frag} {H : Hp} {a : Addr} {q : Int × Int} (h : H a = some (.tup [.int q.1, .int q.2])) : Dp K H (.ref a) (dT q) := .tup (SqT.of h) (.cons (.int _) (.cons (.int _) .nil))
theorem dp_Ts {K : PySem.W.Frag} {H : Hp} : ∀ {ts : List Addr} {ps : List (Int × Int)}, Tups H ts ps → DpAll K H (ts.map V.ref) (ps.map dT)
  | _, _, .nil => .nil
  | _, _, .cons h t => .cons (dp_T h) (dp_Ts t)
theorem dp_P {K : PySem.W.Frag} {H : Hp} {a : Addr} {ts : List Addr} {ps : List (Int × Int)} (h : SqL K H a (ts.map V.ref)) (r : Tups H ts ps) : Dp K H (.ref a) (dP ps) := .lst h (dp_Ts r)
/-- the lists at as hold the rows -/
def Rows (H : Hp) (as : List Addr) (rows : List (List Int)) : Prop := Paired (fun a r => H a = some (.lst (r.map V.int))) as rows
theorem Rows.same {H H' : Hp} {as : List Addr} {rs : List (List Int)} (h : Rows H as rs) (s : Same H H') : Rows H' as rs := Paired.mapP h fun _ _ e => s _ _ e
theorem Rows.len {H : Hp} {as : List Addr} {rs : List (List Int)} (h : Rows H as rs) : as.length = rs.length := Paired.length h
theorem Rows.snoc {H : Hp} {as : List Addr} {rs : List (List Int)} {a : Addr} {r : List Int} (h : Rows H as rs) (e : H a = some (.lst (r.map V.int))) : Rows H (as ++ [a]) (rs ++ [r]) := Paired.snoc h e
theorem Rows.get {H : Hp} {as : List Addr} {rs : List (List Int)} (h : Rows H as rs) {i : Nat} {r : List Int} (e : rs[i]? = some r) : ∃ a, as[i]? = some a ∧ H a = some (.lst (r.map V.int)) := by
  have hl := h.len
  have hi : i < as.length := by
    have := (List.getElem?_eq_some_iff.mp e).1
    omega
  refine ⟨as[i], List.getElem?_eq_getElem hi, ?_⟩
  obtain ⟨q', e', hq⟩ := paired_get h (List.getElem?_eq_getElem hi)
  rw [e] at e'
  cases e'
  exact hq
theorem Rows.at {H : Hp} {as : List Addr} {rs : List (List Int)} (h : Rows H as rs) {i : Nat} {a : Addr} (e : as[i]? = some a) : ∃ r, rs[i]? = some r ∧ H a = some (.lst (r.map V.int)) := paired_get h e
theorem Rows.mem {H : Hp} {as : List Addr} {rs : List (List Int)} (h : Rows H as rs) {a : Addr} (e : a ∈ as) : ∃ r, r ∈ rs ∧ H a = some (.lst (r.map V.int)) := by
  obtain ⟨i, hi, rfl⟩ := List.getElem_of_mem e
  obtain ⟨r, h1, h2⟩ := h.at (List.getElem?_eq_getElem hi)
  exact ⟨r, List.mem_of_getElem? h1, h2⟩
/-- a list that is none of the rows may change -/
theorem Rows.upd {H : Hp} {as : List Addr} {rs : List (List Int)} {p : Addr} {o : HO} (h : Rows H as rs) (e : p ∉ as) : Rows (upd H p o) as rs := by
  unfold Rows at *
  induction h with
  | nil => exact .nil
  | cons q t ih =>
    refine .cons ?_ (ih fun z => e (List.mem_cons_of_mem _ z))
    rw [upd_ne (fun z => e (by rw [← z]; exact List.mem_cons_self ..))]
    exact q
theorem Rows.take {H : Hp} {as : List Addr} {rs : List (List Int)} (h : Rows H as rs) (k : Nat) : Rows H (as.take k) (rs.take k) := by
  unfold Rows at *
  induction h generalizing k with
  | nil => rw [List.take_nil, List.take_nil]; exact .nil
  | cons q t ih =>
    cases k with
    | zero => exact .nil
    | succ k => exact .cons q (ih k)
theorem dp_Ls {K : PySem.W.Frag} {H : Hp} : ∀ {as : List Addr} {rs : List (List Int)}, Rows H as rs → DpAll K H (as.map V.ref) (rs.map dI)
  | _, _, .nil => .nil
  | _, _, .cons h t => .cons (dp_I (SqL.of h)) (dp_Ls t)
theorem dp_L {K : PySem.W.Frag} {H : Hp} {a : Addr} {as : List Addr} {rs : List (List Int)} (h : SqL K H a (as.map V.ref)) (r : Rows H as rs) : Dp K H (.ref a) (dL rs) := .lst h (dp_Ls r)
theorem dL_any (rs : List (List Int)) (r : List Int) : ((rs.map dI).any fun z => PyData.eqv z (dI r)) = decide (r ∈ rs) := by
  induction rs with
  | nil => rfl
  | cons x rs ih =>
    rw [List.map_cons, List.any_cons, ih, dI_eqv]
    by_cases h : x = r
    · subst h
      simp
    · by_cases h2 : r ∈ rs
      · simp [h2]
      · simp [h, h2, Ne.symm h]
theorem cut_take (xs : List V) (k : Nat) : cutV xs none (some (k : Int)) = xs.take k := by
  unfold cutV
  rw [HT.sIx_none, HT.sIx_nat, List.drop_zero, Nat.sub_zero]
  by_cases h : k ≤ xs.length
  · rw [Nat.min_eq_left h]
  · rw [Nat.min_eq_right (by omega), List.take_length, List.take_of_length_le (by omega)]
theorem Tups.take {H : Hp} {ts : List Addr} {ps : List (Int × Int)} (h : Tups H ts ps) (k : Nat) : Tups H (ts.take k) (ps.take k) := by
  unfold Tups at *
  induction h generalizing k with
  | nil => rw [List.take_nil, List.take_nil]; exact .nil
  | cons q t ih =>
    cases k with
    | zero => exact .nil
    | succ k => exact .cons q (ih k)
/-! ### what the program's own looks ask -/
def Guard (CM CS : Addr) (m : Int) (ms : List Int) (E : XK) (H : Hp) (good : Prop) : Prop :=
  ((m < 0 ∨ 40 < m) → E (.ref CM) none H) ∧ (¬ (m < 0 ∨ 40 < m) → setOk m (-1) ms = false → E (.ref CS) none H) ∧ (∀ n : Nat, m = (n : Int) → n ≤ 40 → IsSet n ms → good)
theorem Guard.of {CM CS : Addr} {n : Nat} {ms : List Int} {E : XK} {H : Hp} {good : Prop} (hn : n ≤ 40) (h : IsSet n ms) (g : good) : Guard CM CS n ms E H good :=
  ⟨fun z => absurd z (by omega), fun _ z => by rw [setOk_set.mpr h] at z; (cases z), fun _ _ _ _ => g⟩
theorem Guard.imp {CM CS : Addr} {m : Int} {ms : List Int} {E : XK} {H : Hp} {good good' : Prop} (h : Guard CM CS m ms E H good) (g : ∀ n : Nat, m = (n : Int) → n ≤ 40 → IsSet n ms → good → good') : Guard CM CS m ms E H good' :=
  ⟨h.1, h.2.1, fun n e h1 h2 => g n e h1 h2 (h.2.2 n e h1 h2)⟩
/-! ### rules whose reading names the written part (for a comprehension's block) -/
/-! ### the text -/
def topS (i : Nat) : Stmt := PySem.Challenge.pw_setchains_k05_whole_one_chain.main.body.getD i (.Pass ⟨0, 0, 0, 0⟩)
abbrev s_asked_many : Stmt := topS 6
theorem sc_asked_many : FnScope ["many", "most"] ["many", "most"] (defScope s_asked_many) := ⟨rfl, rfl, rfl, by decide +kernel, rfl, by decide +kernel, by decide +kernel⟩
abbrev s_asked_set : Stmt := topS 7
theorem sc_asked_set : FnScope ["many", "members", "before", "thing"] ["many", "members"] (defScope s_asked_set) := ⟨rfl, rfl, rfl, by decide +kernel, rfl, by decide +kernel, by decide +kernel⟩
abbrev s_parted : Stmt := topS 8
theorem sc_parted : FnScope ["many", "members", "inside", "thing", "pairs", "alone", "waiting"] ["many", "members"] (defScope s_parted) := ⟨rfl, rfl, rfl, by decide +kernel, rfl, by decide +kernel, by decide +kernel⟩
abbrev s_loose : Stmt := topS 9
theorem sc_loose : FnScope ["many", "members", "pairs", "alone", "waiting"] ["many", "members"] (defScope s_loose) := ⟨rfl, rfl, rfl, by decide +kernel, rfl, by decide +kernel, by decide +kernel⟩
abbrev s_chain : Stmt := topS 11
theorem sc_chain : FnScope ["many", "members", "alone", "waiting", "thing", "bottom", "found"] ["many", "members"] (defScope s_chain) := ⟨rfl, rfl, rfl, by decide +kernel, rfl, by decide +kernel, by decide +kernel⟩
abbrev s__law_cell_at : Stmt := topS 13
theorem sc__law_cell_at : FnScope ["script", "k"] ["script", "k"] (defScope s__law_cell_at) := ⟨rfl, rfl, rfl, by decide +kernel, rfl, by decide +kernel, by decide +kernel⟩
abbrev s__law_all_sets : Stmt := topS 14
theorem sc__law_all_sets : FnScope ["size", "rows", "thing", "row"] ["size"] (defScope s__law_all_sets) := ⟨rfl, rfl, rfl, by decide +kernel, rfl, by decide +kernel, by decide +kernel⟩
abbrev s_law : Stmt := topS 15
theorem sc_law : FnScope ["script", "size", "rows", "number_of_row", "bottoms", "found", "k", "one", "row"] ["script"] (defScope s_law) := ⟨rfl, rfl, rfl, by decide +kernel, rfl, by decide +kernel, by decide +kernel⟩
section
variable {X : Cx} (K : PySem.W.Frag)
theorem ix_listK (h : X.K = K := by rfl) : IxR X (rIxL K) := h ▸ ix_list
theorem ix_tupK (h : X.K = K := by rfl) : IxR X (rIxT K) := h ▸ ix_tup
theorem sl_listK (h : X.K = K := by rfl) : SlR X (rSlL K) := h ▸ sl_list
theorem pg_tupK {es : List Expr} {k : Nat} {t : TGs} {n : Nat} {pos : Pos} (hc : X.calm = true) (h : PGs X es t)
    (hn : (assignEach es X.env).length = n := by rfl) (hst : (assignEach es X.env).findIdx? (·.1) = none := by rfl) (hK : X.K = K := by rfl) : PG X (.Tuple es k pos) (gTup K n t) := hK ▸ pg_tup hc h hn hst
theorem op_in_seqK (h : X.K = K := by rfl) : OpR X (compareOp .In) (rIn K false) := h ▸ op_in_seq
theorem op_notIn_seqK (h : X.K = K := by rfl) : OpR X (compareOp .NotIn) (rIn K true) := h ▸ op_notIn_seq
theorem op_eqDK (hu : X.A.units + 64 < cLine) (h : X.K = K := by rfl) : OpR X (compareOp .Eq) (rEqD K) := h ▸ op_eqD hu
theorem op_neDK (hu : X.A.units + 64 < cLine) (h : X.K = K := by rfl) : OpR X (compareOp .NotEq) (rNeD K) := h ▸ op_neD hu
theorem op_inDK (hu : X.A.units + 65 < cLine) (h : X.K = K := by rfl) : OpR X (compareOp .In) (rInD K) := h ▸ op_inD hu
theorem op_notInDK (hu : X.A.units + 65 < cLine) (h : X.K = K := by rfl) : OpR X (compareOp .NotIn) (rNotInD K) := h ▸ op_notInD hu
theorem call_len_seqK (h : X.K = K := by rfl) : CallR X (.builtin "len") (fun xs H Q => ∃ p ys, xs = [.ref p] ∧ (SqL K H p ys ∨ SqT K H p ys) ∧ Q (.int ys.length) H) := h ▸ call_len_seq
theorem call_list_ofK (h : X.K = K := by rfl) : CallR X (.type "list") (fun xs H Q => ∃ p ys, xs = [.ref p] ∧ (SqL K H p ys ∨ SqT K H p ys) ∧ ∀ l, H l = none → Q (.ref l) (upd H l (.lst ys))) := h ▸ call_list_of
end
section
variable {P : Program} {w : World} {K : PySem.W.Frag} {mg : Str → Option Value} {base : Heap} {tM : Tok}
/-! #### asked_many -/
def spMany (C : Addr) : Sp := fun vs H Q E => ∃ m M : Int, vs = [.int m, .int M] ∧ ((m < 0 ∨ M < m) → E (.ref C) none H) ∧ (¬ (m < 0 ∨ M < m) → Q .non H)
theorem ok_asked_many {C_NoMany : Addr} (A : At K mg "asked_many" s_asked_many) (B : Bt mg tM) (X_NoMany : XT K mg "NoMany" C_NoMany) :
    Def P w K mg base (L2.CX P w) 1 "asked_many" ["many", "most"] (spMany C_NoMany) := by
  obtain ⟨f, fd, F, gm⟩ := A
  refine ⟨⟨f, fd, F.okX sc_asked_many (fun vs H Q E h => ?_) (fun cdv A outer s H vs Q E hr h => ?_), gm, F.kp, F.binds fun _ _ _ _ _ _ us hl => match us, hl with | [_, _], _ => rfl⟩⟩
  · obtain ⟨m, M, rfl, _⟩ := h
    rfl
  · obtain ⟨m, M, rfl, kE, kQ⟩ := h
    have tk := takes_of (X := cxOf (L2.CX P w) P w K mg base ["many", "most"] "asked_many" (defScope s_asked_many) f cdv A outer s H E) (E := E) rfl rfl rfl rfl
    refine ⟨_, (pss_one (ps_if (PW.pt (pw_or (pt_cmpR op_lt (pv 0) pe_int (nomark _)) (pw_or1 (pt_cmpR op_gt (pv 0) (pv 1) (nomark _))))) (pss_one (ps_raise rfl tk (pmk_own PySem.F.excBase_ValueError X_NoMany.x X_NoMany.g X_NoMany.k (raises_own X_NoMany.b X_NoMany.t) (by rfl)))) pss_nil)), ?_⟩
    refine ⟨_, rfl, m, 0, rfl, rfl, _, rfl, ite2 (fun h1 => ?_) (fun h1 => ?_)⟩
    · exact iteT (kE (.inl (of_decide_eq_true h1)))
    · have h1' : ¬ m < 0 := fun z => h1 (decide_eq_true z)
      refine ⟨_, rfl, _, rfl, m, M, rfl, rfl, _, rfl, ite2 (fun h2 => ?_) (fun h2 => ?_)⟩
      · exact kE (.inr (of_decide_eq_true h2))
      · exact kQ fun z => z.elim h1' fun q => h2 (decide_eq_true q)
/-! #### asked_set -/
def spSet (K : PySem.W.Frag) (C : Addr) : Sp := fun vs H Q E => ∃ (m : Int) (a : Addr) (ms : List Int), vs = [.int m, .ref a] ∧ SqL K H a (ms.map V.int) ∧ (setOk m (-1) ms = false → E (.ref C) none H) ∧ (setOk m (-1) ms = true → Q .non H)
theorem ok_asked_set {C_NoSet : Addr} (A : At K mg "asked_set" s_asked_set) (B : Bt mg tM) (X_NoSet : XT K mg "NoSet" C_NoSet) :
    Def P w K mg base (L2.CX P w) 1 "asked_set" ["many", "members"] (spSet K C_NoSet) := by
  obtain ⟨f, fd, F, gm⟩ := A
  refine ⟨⟨f, fd, F.okX sc_asked_set (fun vs H Q E h => ?_) (fun cdv A outer s H vs Q E hr h => ?_), gm, F.kp, F.binds fun _ _ _ _ _ _ us hl => match us, hl with | [_, _], _ => rfl⟩⟩
  · obtain ⟨m, a, ms, rfl, _⟩ := h
    rfl
  · obtain ⟨m, a, ms, rfl, hS, kE, kQ⟩ := h
    have tk := takes_of (X := cxOf (L2.CX P w) P w K mg base ["many", "members", "before", "thing"] "asked_set" (defScope s_asked_set) f cdv A outer s H E) (E := E) rfl rfl rfl rfl
    refine ⟨_, (pss_cons (ps_set (i := 2) sc_asked_set.nd rfl (.inl rfl) (pe_un un_neg pe_int))
    (pss_one (ps_for (passes_of rfl) rfl (pi_list (pv 1)) (pg_name (i := 3) sc_asked_set.nd rfl (.inl rfl)) (pss_cons (ps_if (PW.pt (pw_or (pt_cmpR op_le (pv 3) (pv 2) (nomark _)) (pw_or1 (pt_cmpR op_ge (pv 3) (pv 0) (nomark _))))) (pss_one (ps_raise rfl tk (pmk_own PySem.F.excBase_ValueError X_NoSet.x X_NoSet.g X_NoSet.k (raises_own X_NoSet.b X_NoSet.t) (by rfl)))) pss_nil)
    (pss_one (ps_set (i := 2) sc_asked_set.nd rfl (.inl rfl) (pv 3))))))), ?_⟩
    refine ⟨1, rfl, _, rfl, a, rfl, ⟨_, hS⟩, ?_⟩
    refine for_list (K := K) (a := a) (xs := ms.map V.int) (fun i σ H' => H' = H ∧ ∃ (b : Int) (y : Option V), σ = [some (.int m), some (.ref a), some (.int b), y] ∧ setOk m (-1) ms = setOk m b (ms.drop i)) ⟨rfl, -1, none, rfl, rfl⟩ (fun i σ H' _ ⟨e, _⟩ => e ▸ hS) ?_ ?_
    · rintro i x σ H' hi ⟨rfl, b, y, rfl, e⟩
      obtain ⟨v, hv, rfl⟩ := at_map hi
      have ed : ms.drop i = v :: ms.drop (i + 1) := List.drop_eq_getElem?_toList_append.trans (by rw [hv]; rfl)
      rw [ed] at e
      refine ⟨_, rfl, _, rfl, v, b, rfl, rfl, _, rfl, ite2 (fun h1 => ?_) (fun h1 => ?_)⟩
      · refine iteT (kE ?_)
        rw [e]
        exact if_pos (.inl (of_decide_eq_true h1))
      · have h1' : ¬ v ≤ b := fun z => h1 (decide_eq_true z)
        refine ⟨_, rfl, _, rfl, v, m, rfl, rfl, _, rfl, ite2 (fun h2 => ?_) (fun h2 => ?_)⟩
        · refine kE ?_
          rw [e]
          exact if_pos (.inr (of_decide_eq_true h2))
        · have h2' : ¬ m ≤ v := fun z => h2 (decide_eq_true z)
          refine ⟨_, rfl, rfl, v, some (.int v), rfl, ?_⟩
          rw [e]
          exact if_neg (fun z => z.elim h1' h2')
    · rintro σ H' ⟨rfl, b, y, rfl, e⟩
      refine kQ ?_
      rw [e, List.drop_of_length_le (by rw [List.length_map]; exact Nat.le_refl _)]
      all_goals rfl
/-! #### parted -/
/-- what parted tells: a tuple at p of the pairs at s, the loose members at al, the loose others at wa -/
structure Parted (H H' : Hp) (n : Nat) (ms : List Int) (p s al wa : Addr) (ts : List Addr) : Prop where
  same : Same H H'
  np : H p = none
  ns : H s = none
  nal : H al = none
  nwa : H wa = none
  d1 : al ≠ wa
  d2 : s ≠ al
  d3 : s ≠ wa
  tup : H' p = some (.tup [.ref s, .ref al, .ref wa])
  srt : H' s = some (.lst (ts.map V.ref))
  prs : Tups H' ts (psort (fin n ms).prs)
  aln : H' al = some (.lst ((fin n ms).aln.map V.int))
  wt : H' wa = some (.lst ((fin n ms).wt.map V.int))
def spParted (K : PySem.W.Frag) : Sp := fun vs H Q _ => ∃ (n : Nat) (a : Addr) (ms : List Int), vs = [.int (n : Int), .ref a] ∧ n ≤ 60 ∧ ms.length ≤ 100 ∧ SqL K H a (ms.map V.int) ∧
  ∀ H' p s al wa ts, Parted H H' n ms p s al wa ts → Q (.ref p) H'
theorem ok_parted (A : At K mg "parted" s_parted) (B : Bt mg tM) :
    Def P w K mg base CX0 1 "parted" ["many", "members"] (spParted K) := by
  obtain ⟨f, fd, F, gm⟩ := A
  refine ⟨⟨f, fd, F.ok sc_parted (fun vs H Q E h => ?_) (fun cdv A outer s H vs Q E hr h => ?_), gm, F.kp, F.binds fun _ _ _ _ _ _ us hl => match us, hl with | [_, _], _ => rfl⟩⟩
  · obtain ⟨n, a, ms, rfl, _⟩ := h
    rfl
  · obtain ⟨n, a, ms, rfl, hn, hm, hS, q⟩ := h
    refine ⟨_, (pss_cons (ps_set (i := 2) sc_parted.nd rfl (.inl rfl) pe_dnewK)
    (pss_cons (ps_for PassesOwn.never rfl (pi_list (pv 1)) (pg_name (i := 3) sc_parted.nd rfl (.inl rfl)) (pss_one (ps_dput (hu_of hr) (pv 2) (pv 3) pe_bl rfl)))
    (pss_cons (ps_set (i := 4) sc_parted.nd rfl (.inl rfl) (pe_lst pa_nil))
    (pss_cons (ps_set (i := 5) sc_parted.nd rfl (.inl rfl) (pe_lst pa_nil))
    (pss_cons (ps_set (i := 6) sc_parted.nd rfl (.inl rfl) (pe_lst pa_nil))
    (pss_cons (ps_for PassesOwn.never rfl (pi_range1 (by rfl) B.range (pa_cons (pv 0) pa_nil)) (pg_name (i := 3) sc_parted.nd rfl (.inl rfl)) (pss_one (ps_if (pt_cmp (pc_dnotin (hu_of hr) (pv 3) (pv 2)) rfl) (pss_one (ps_expr (pe_bm PySem.F.plainAttrs_list PySem.F.slot_list_append PySem.F.type_list_append mt_append (pv 6) (pa_cons (pv 3) pa_nil)))) (pss_one (ps_if (pt_cmpR op_gt (pe_callB call_len_seq (by rfl) B.len (by decide +kernel) (pa_cons (pv 6) pa_nil)) pe_int (nomark _)) (pss_one (ps_expr (pe_bm PySem.F.plainAttrs_list PySem.F.slot_list_append PySem.F.type_list_append mt_append (pv 4) (pa_cons (pe_tup (pa_cons (pe_bm0 PySem.F.plainAttrs_list PySem.F.slot_list_pop PySem.F.type_list_pop mt_pop (pv 6)) (pa_cons (pv 3) pa_nil))) pa_nil)))) (pss_one (ps_expr (pe_bm PySem.F.plainAttrs_list PySem.F.slot_list_append PySem.F.type_list_append mt_append (pv 5) (pa_cons (pv 3) pa_nil)))))))))
    (pss_one (ps_ret (pe_tup (pa_cons (pe_callB cr_sortedQ (by rfl) B.sorted (by decide +kernel) (pa_cons (pv 4) pa_nil)) (pa_cons (pv 5) (pa_cons (pv 6) pa_nil)))))))))))), ?_⟩
    intro d nd
    have s0 : Same H (upd H d (.dK [])) := same_new nd
    refine ⟨_, rfl, a, rfl, ⟨_, s0.seq hS⟩, ?_⟩
    refine for_list (K := K) (a := a) (xs := ms.map V.int) (fun i σ H' => Same H H' ∧ KD H' d (ms.take i) ∧ ∃ y : Option V, σ = [some (.int (n : Int)), some (.ref a), some (.ref d), y, none, none, none]) ⟨s0, KD.nil upd_same, none, rfl⟩ (fun i σ H' _ ⟨e, _⟩ => e.seq hS) ?_ ?_
    · rintro i x σ H1 hi ⟨s1, kd, y, rfl⟩
      obtain ⟨v, hv, rfl⟩ := at_map hi
      obtain ⟨o, dp, k2⟩ := kd.put (by rw [List.length_take]; omega) v (.bl true)
      refine ⟨_, rfl, _, rfl, d, _, rfl, dp, same_mut s1 nd, ?_, some (.int v), rfl⟩
      rw [take_snoc hv]
      exact k2 _ upd_same
    · rintro σ H1 ⟨s1, kd, y, rfl⟩
      rw [List.length_map, List.take_length] at kd
      refine ⟨sz_le (by show 0 ≤ _; omega), fun pl npl => ?_⟩
      refine ⟨sz_le (by show 0 ≤ _; omega), fun al nal => ?_⟩
      refine ⟨sz_le (by show 0 ≤ _; omega), fun wa nwa => ?_⟩
      have e1 : pl ≠ al := ne_of_none upd_same nal
      have e2 : al ≠ wa := ne_of_none upd_same nwa
      have e3 : pl ≠ wa := ne_of_none (o := .lst []) (by rw [upd_ne e1, upd_same]) nwa
      have s2 : Same H1 (upd (upd (upd H1 pl (.lst [])) al (.lst [])) wa (.lst [])) := ((same_new npl).trans (same_new nal)).trans (same_new nwa)
      have npl0 : H pl = none := s1.free npl
      have nal0 : H al = none := (s1.trans (same_new npl)).free nal
      have nwa0 : H wa = none := ((s1.trans (same_new npl)).trans (same_new nal)).free nwa
      refine ⟨_, rfl, (n : Int), rfl, by omega, by omega, ?_⟩
      refine for_range (lo := 0) (n := ((n : Int)).toNat) (fun i σ H' => Same H H' ∧ KD H' d ms ∧ ∃ (ts : List Addr) (y : Option V), σ = [some (.int (n : Int)), some (.ref a), some (.ref d), y, some (.ref pl), some (.ref al), some (.ref wa)] ∧
        H' pl = some (.lst (ts.map V.ref)) ∧ Tups H' ts (st (mem ms) i).prs ∧ H' al = some (.lst ((st (mem ms) i).aln.map V.int)) ∧ H' wa = some (.lst ((st (mem ms) i).wt.map V.int)))
        ⟨s1.trans s2, kd.same s2, [], y, rfl, by rw [upd_ne e3, upd_ne e1, upd_same]; rfl, .nil, by rw [upd_ne e2, upd_same]; rfl, by rw [upd_same]; rfl⟩ ?_ ?_
      · rintro i σ H2 hi ⟨s3, kd2, ts, y2, rfl, hp, ht, ha, hw⟩
        have hi' : i < n := by omega
        have dne : ∀ b xs, H2 b = some (.lst xs) → d ≠ b := fun b xs e => by
          obtain ⟨kvs, h1, _⟩ := kd2
          exact ne_of h1 e (by intro z; cases z)
        have dpl := dne _ _ hp
        have dal := dne _ _ ha
        have dwa := dne _ _ hw
        obtain ⟨o, dg, ho⟩ := kd2.get ((0 : Int) + (i : Int))
        have ei : ((0 : Int) + (i : Int)) = (i : Int) := Int.zero_add _
        have okS := ok_st (mem ms) i
        have step : st (mem ms) (i + 1) = stp (mem ms i) i (st (mem ms) i) := rfl
        have lens := okS.sum
        refine ⟨_, rfl, _, rfl, d, o, rfl, dg, _, rfl, ?_⟩
        rw [ho, ei]
        cases hc : ms.contains (i : Int) with
        | false =>
          have hc' : mem ms i = false := hc
          rw [hc', stp_no] at step
          refine iteT ?_
          refine ⟨_, rfl, .inl ⟨rfl, _, SqL.of hw⟩, _, rfl, wa, _, _, rfl, rfl, hw, sz_lt (by rw [List.length_map]; omega), ?_⟩
          refine ⟨same_mut s3 nwa0, kd2.at (upd_ne dwa), ts, some (.int (i : Int)), rfl, by rw [upd_ne e3]; exact hp, ?_, ?_, ?_⟩
          · rw [step]; exact ht.upd hw
          · rw [step, upd_ne e2]; exact ha
          · rw [step, upd_same, List.map_append]
            rfl
        | true =>
          have hc' : mem ms i = true := hc
          rw [hc'] at step
          refine iteF ?_
          refine ⟨_, rfl, wa, _, rfl, .inl (SqL.of hw), _, _, rfl, rfl, _, rfl, ?_⟩
          rcases snoc_cases (st (mem ms) i).wt with z | ⟨r, wl, z⟩
          · rw [stp_alone z] at step
            refine ite2 (fun h1 => ?_) (fun _ => ?_)
            · have := of_decide_eq_true h1
              rw [z] at this
              exact absurd this (by decide)
            · refine ⟨_, rfl, .inl ⟨rfl, _, SqL.of ha⟩, _, rfl, al, _, _, rfl, rfl, ha, sz_lt (by rw [List.length_map]; omega), ?_⟩
              refine ⟨same_mut s3 nal0, kd2.at (upd_ne dal), ts, some (.int (i : Int)), rfl, by rw [upd_ne e1]; exact hp, ?_, ?_, ?_⟩
              · rw [step]; exact ht.upd ha
              · rw [step, upd_same, List.map_append]
                rfl
              · rw [step, upd_ne e2.symm, hw, z]
          · rw [stp_pop z] at step
            have hw' := hw
            rw [z, List.map_append] at hw'
            refine ite2 (fun _ => ?_) (fun h1 => ?_)
            · refine ⟨_, rfl, .inl ⟨rfl, _, SqL.of hp⟩, _, rfl, .inl ⟨rfl, _, SqL.of hw'⟩, wa, _, .int wl, rfl, rfl, hw', by simp, _, rfl, sz_le (by show 2 ≤ _; omega), fun T nT => ?_⟩
              have tne : ∀ b xs, H2 b = some xs → b ≠ wa → b ≠ T := fun b xs e n => ne_of_none (H := upd H2 wa (.lst (List.map V.int r ++ List.map V.int [wl]).dropLast)) (o := xs) (by rw [upd_ne n]; exact e) nT
              have Twa : wa ≠ T := ne_of_none upd_same nT
              have hp2 : (upd (upd H2 wa (.lst (List.map V.int r ++ List.map V.int [wl]).dropLast)) T (.tup [V.int wl, V.int (i : Int)])) pl = some (.lst (ts.map V.ref)) := by
                rw [upd_ne (tne _ _ hp e3), upd_ne e3]
                exact hp
              refine ⟨pl, _, _, rfl, rfl, hp2, sz_lt (by rw [List.length_map, ht.len]; omega), ?_⟩
              have s4 : Same H (upd (upd (upd H2 wa (.lst (List.map V.int r ++ List.map V.int [wl]).dropLast)) T (.tup [V.int wl, V.int (i : Int)])) pl (.lst (ts.map V.ref ++ [.ref T]))) :=
                same_mut ((same_mut s3 nwa0).trans (same_new nT)) npl0
              refine ⟨s4, kd2.at ?_, ts ++ [T], some (.int (i : Int)), rfl, ?_, ?_, ?_, ?_⟩
              · obtain ⟨kvs, hk, _⟩ := kd2
                rw [upd_ne dpl, upd_ne (tne _ _ hk dwa), upd_ne dwa]
              · rw [upd_same, List.map_append]
                rfl
              · rw [step]
                refine Tups.upd ?_ hp2
                refine Tups.snoc ?_ ?_
                · exact (ht.upd hw).same (same_new nT)
                · rw [upd_same]
              · rw [step, upd_ne e1.symm, upd_ne (tne _ _ ha e2), upd_ne e2]
                exact ha
              · rw [step, upd_ne e3.symm, upd_ne Twa, upd_same]
                simp
            · refine absurd (decide_eq_true ?_) h1
              rw [z]
              simp
      · rintro σ H2 ⟨s3, kd2, ts, y2, rfl, hp, ht, ha, hw⟩
        refine ⟨_, rfl, pl, ts, _, rfl, SqL.of hp, ht, fun s ts' nS ht' => ?_⟩
        refine ⟨_, rfl, _, rfl, sz_le (by show 3 ≤ _; omega), fun p np => ?_⟩
        have as : al ≠ s := ne_of_none ha nS
        have ws : wa ≠ s := ne_of_none hw nS
        have s5 : Same H (upd H2 s (.lst (ts'.map V.ref))) := s3.trans (same_new nS)
        have ap : al ≠ p := ne_of_none (H := upd H2 s (.lst (ts'.map V.ref))) (by rw [upd_ne as]; exact ha) np
        have wp : wa ≠ p := ne_of_none (H := upd H2 s (.lst (ts'.map V.ref))) (by rw [upd_ne ws]; exact hw) np
        have sp : s ≠ p := ne_of_none upd_same np
        refine q _ p s al wa ts' ⟨s5.trans (same_new np), s5.free np, s3.free nS, nal0, nwa0, e2, as.symm, ws.symm, upd_same, ?_, ?_, ?_, ?_⟩
        · rw [upd_ne sp, upd_same]
        · exact (ht'.same (same_new nS)).same (same_new np)
        · rw [upd_ne ap, upd_ne as]; exact ha
        · rw [upd_ne wp, upd_ne ws]; exact hw
/-! #### loose -/
/-- a tuple at p of the loose members at al and the loose others at wa -/
structure Loosed (H H' : Hp) (n : Nat) (ms : List Int) (p al wa : Addr) : Prop where
  same : Same H H'
  np : H p = none
  nal : H al = none
  nwa : H wa = none
  d1 : al ≠ wa
  tup : H' p = some (.tup [.ref al, .ref wa])
  aln : H' al = some (.lst ((fin n ms).aln.map V.int))
  wt : H' wa = some (.lst ((fin n ms).wt.map V.int))
def spLoose (K : PySem.W.Frag) (CM CS : Addr) : Sp := fun vs H Q E => ∃ (m : Int) (a : Addr) (ms : List Int), vs = [.int m, .ref a] ∧ SqL K H a (ms.map V.int) ∧
  Guard CM CS m ms E H (∀ H' p al wa, Loosed H H' m.toNat ms p al wa → Q (.ref p) H')
theorem ok_loose {C_NoMany : Addr} {C_NoSet : Addr} (A : At K mg "loose" s_loose) (B : Bt mg tM) (D_asked_many : Def P w K mg base (L2.CX P w) 1 "asked_many" ["many", "most"] (spMany C_NoMany)) (D_asked_set : Def P w K mg base (L2.CX P w) 1 "asked_set" ["many", "members"] (spSet K C_NoSet)) (D_parted : Def P w K mg base CX0 1 "parted" ["many", "members"] (spParted K)) :
    Def P w K mg base (L2.CX P w) 2 "loose" ["many", "members"] (spLoose K C_NoMany C_NoSet) := by
  obtain ⟨f, fd, F, gm⟩ := A
  obtain ⟨f_asked_many, fd_asked_many, G_asked_many, g_asked_many, k_asked_many, b_asked_many⟩ := D_asked_many.ex
  obtain ⟨f_asked_set, fd_asked_set, G_asked_set, g_asked_set, k_asked_set, b_asked_set⟩ := D_asked_set.ex
  obtain ⟨f_parted, fd_parted, G_parted, g_parted, k_parted, b_parted⟩ := D_parted.ex
  refine ⟨⟨f, fd, F.okX sc_loose (fun vs H Q E h => ?_) (fun cdv A outer s H vs Q E hr h => ?_), gm, F.kp, F.binds fun _ _ _ _ _ _ us hl => match us, hl with | [_, _], _ => rfl⟩⟩
  · obtain ⟨m, a, ms, rfl, _⟩ := h
    rfl
  · obtain ⟨m, a, ms, rfl, hS, g⟩ := h
    have tk := takes_of (X := cxOf (L2.CX P w) P w K mg base ["many", "members", "pairs", "alone", "waiting"] "loose" (defScope s_loose) f cdv A outer s H E) (E := E) rfl rfl rfl rfl
    refine ⟨_, (pss_cons (ps_expr (pe_call G_asked_many (hr.mono (by decide)) (by rfl) g_asked_many k_asked_many b_asked_many .nil (passes_call tk (fun _ _ _ _ h => h)) (pa_cons (pv 0) (pa_cons (pe_glob (v := .int 40) rfl B.MOST ⟨_, rfl⟩) pa_nil))))
    (pss_cons (ps_expr (pe_call G_asked_set (hr.mono (by decide)) (by rfl) g_asked_set k_asked_set b_asked_set .nil (passes_call tk (fun _ _ _ _ h => h)) (pa_cons (pv 0) (pa_cons (pv 1) pa_nil))))
    (pss_cons (ps_asg (pe_call G_parted (hr.mono (by decide)) (by rfl) g_parted k_parted b_parted .nil pass0 (pa_cons (pv 0) (pa_cons (pv 1) pa_nil))) (pg_tup (by rfl) (pgs_cons (pg_name (i := 2) sc_loose.nd rfl (.inl rfl)) (pgs_cons (pg_name (i := 3) sc_loose.nd rfl (.inl rfl)) (pgs_cons (pg_name (i := 4) sc_loose.nd rfl (.inl rfl)) pgs_nil)))))
    (pss_one (ps_ret (pe_tup (pa_cons (pv 3) (pa_cons (pv 4) pa_nil)))))))), ?_⟩
    refine ⟨_, rfl, m, 40, rfl, g.1, fun hm => ?_⟩
    obtain ⟨n, rfl⟩ : ∃ n : Nat, m = (n : Int) := ⟨m.toNat, by omega⟩
    refine ⟨_, rfl, _, rfl, (n : Int), a, ms, rfl, hS, fun z => g.2.1 hm z, fun z => ?_⟩
    have hset := setOk_set.mp z
    have hl := hset.len
    refine ⟨_, rfl, _, rfl, n, a, ms, rfl, by omega, by omega, hS, fun H' p s al wa ts hp => ?_⟩
    refine ⟨p, _, rfl, SqT.of hp.tup, rfl, _, _, rfl, _, _, rfl, _, _, rfl, rfl, ?_⟩
    refine ⟨_, rfl, _, rfl, sz_le (by show 2 ≤ _; omega), fun p2 np2 => ?_⟩
    refine g.2.2 n rfl (by omega) hset _ p2 al wa ⟨hp.same.trans (same_new np2), hp.same.free np2, hp.nal, hp.nwa, hp.d1, upd_same, ?_, ?_⟩
    · rw [upd_ne (ne_of_none hp.aln np2)]
      exact hp.aln
    · rw [upd_ne (ne_of_none hp.wt np2)]
      exact hp.wt
/-! #### chain -/
/-- a new list at p of new lists at as, the rows -/
structure NewRows (H H' : Hp) (p : Addr) (as : List Addr) (rows : List (List Int)) : Prop where
  same : Same H H'
  np : H p = none
  nas : ∀ x ∈ as, H x = none
  nd : as.Nodup
  pas : p ∉ as
  lst : H' p = some (.lst (as.map V.ref))
  rows : Rows H' as rows
def spChain (K : PySem.W.Frag) (CM CS : Addr) : Sp := fun vs H Q E => ∃ (m : Int) (a : Addr) (ms : List Int), vs = [.int m, .ref a] ∧ SqL K H a (ms.map V.int) ∧
  Guard CM CS m ms E H (∀ H' p as, NewRows H H' p as (chainL m.toNat ms) → Q (.ref p) H')
theorem ok_chain {C_NoMany : Addr} {C_NoSet : Addr} (A : At K mg "chain" s_chain) (B : Bt mg tM) (D_loose : Def P w K mg base (L2.CX P w) 2 "loose" ["many", "members"] (spLoose K C_NoMany C_NoSet)) :
    Def P w K mg base (L2.CX P w) 3 "chain" ["many", "members"] (spChain K C_NoMany C_NoSet) := by
  obtain ⟨f, fd, F, gm⟩ := A
  obtain ⟨f_loose, fd_loose, G_loose, g_loose, k_loose, b_loose⟩ := D_loose.ex
  refine ⟨⟨f, fd, F.okX sc_chain (fun vs H Q E h => ?_) (fun cdv A outer s H vs Q E hr h => ?_), gm, F.kp, F.binds fun _ _ _ _ _ _ us hl => match us, hl with | [_, _], _ => rfl⟩⟩
  · obtain ⟨m, a, ms, rfl, _⟩ := h
    rfl
  · obtain ⟨m, a, ms, rfl, hS, g⟩ := h
    have tk := takes_of (X := cxOf (L2.CX P w) P w K mg base ["many", "members", "alone", "waiting", "thing", "bottom", "found"] "chain" (defScope s_chain) f cdv A outer s H E) (E := E) rfl rfl rfl rfl
    refine ⟨_, (pss_cons (ps_asg (pe_call G_loose (hr.mono (by decide)) (by rfl) g_loose k_loose b_loose .nil (passes_call tk (fun _ _ _ _ h => h)) (pa_cons (pv 0) (pa_cons (pv 1) pa_nil))) (pg_tup (by rfl) (pgs_cons (pg_name (i := 2) sc_chain.nd rfl (.inr rfl)) (pgs_cons (pg_name (i := 3) sc_chain.nd rfl (.inl rfl)) pgs_nil))))
    (pss_cons (ps_setLc (i := 5) (by rfl) sc_chain.nd rfl rfl (sw_true rfl rfl rfl (by decide +kernel)) (own := [("thing", 4)]) (g := gName 4) (pi_list (pv 1)) (blkOk_by (N := ["many", "members", "alone", "waiting", "thing", "bottom", "found"]) (sc := defScope s_chain) (by decide +kernel)) (fun _ _ _ _ _ => (pg_name (i := 4) sc_chain.nd rfl (.inl rfl))) (fun _ _ _ _ _ => (pts_one (pt_cmpR (op_notIn_seqK K) (pv 4) (pv 2) (by rfl)))) (fun _ _ _ _ _ => (pv 4)))
    (pss_cons (ps_set (i := 6) sc_chain.nd rfl (.inl rfl) (pe_lst (pa_cons (pv 5) pa_nil)))
    (pss_cons (ps_for (passes_of rfl) rfl (pi_list (pe_op op_cat (pv 2) (pv 3))) (pg_name (i := 4) sc_chain.nd rfl (.inl rfl)) (pss_one (ps_expr (pe_bm PySem.F.plainAttrs_list PySem.F.slot_list_append PySem.F.type_list_append mt_append (pv 6) (pa_cons (pe_callB cr_sortedJ (by rfl) B.sorted (by decide +kernel) (pa_cons (pe_op op_cat (pe_ix ix_list (pv 6) (pe_un un_neg pe_int) (fun _ _ => rfl)) (pe_lst (pa_cons (pv 4) pa_nil))) pa_nil)) pa_nil)))))
    (pss_one (ps_ret (pv 6))))))), ?_⟩
    refine ⟨_, rfl, _, rfl, m, a, ms, rfl, hS, g.imp fun n e hn hset gg H' p al wa hp => ?_⟩
    subst e
    rw [show ((n : Int)).toNat = n from rfl] at gg hp
    refine ⟨p, _, rfl, SqT.of hp.tup, rfl, _, _, rfl, _, _, rfl, rfl, ?_⟩
    have ha := hp.aln
    have hw := hp.wt
    have hS' := hp.same.seq hS
    have hl := hset.len
    have sum := fin_sum n ms
    have ll := loo_len n ms
    have sL := hp.same
    have nal := hp.nal
    have nwa := hp.nwa
    clear hp
    -- bottom
    refine ⟨_, rfl, a, rfl, ⟨_, hS'⟩, fun b nb => ?_⟩
    have alb : al ≠ b := ne_of_none ha nb
    refine lc_list (K := K) (a := a) (xs := ms.map V.int) (fun j H2 => H2 = upd H' b (.lst (((ms.take j).filter fun y => !(fin n ms).aln.contains y).map V.int))) rfl (fun j H2 _ e => by rw [e]; exact (same_new nb).seq hS') ?_ ?_
    · rintro j y H2 hj rfl
      obtain ⟨v, hv, rfl⟩ := at_map hj
      have jl := (List.getElem?_eq_some_iff.mp hv).1
      have ha2 : (upd H' b (.lst (((ms.take j).filter fun y => !(fin n ms).aln.contains y).map V.int))) al = some (.lst ((fin n ms).aln.map V.int)) := by rw [upd_ne alb]; exact ha
      have no := take_snoc hv
      refine ⟨rfl, _, rfl, _, rfl, al, _, rfl, .inl (SqL.of ha2), rfl, flat_ints _, _, rfl, ?_⟩
      show if (if true = true then !inV (V.int v) ((fin n ms).aln.map V.int) else _) = true then _ else _
      rw [if_pos rfl, inV_ints]
      cases hc : (fin n ms).aln.contains v with
      | true =>
        refine iteF ?_
        rw [no, List.filter_append, List.filter_cons, if_neg (by rw [hc]; decide), List.filter_nil, List.append_nil]
      | false =>
        refine iteT ⟨_, rfl, _, upd_same, sz_lt ?_, ?_⟩
        · rw [List.length_map]
          have := List.length_filter_le (fun y => !(fin n ms).aln.contains y) (ms.take j)
          rw [List.length_take] at this
          omega
        · rw [upd_upd, no, List.filter_append, List.filter_cons, if_pos (by rw [hc]; rfl), List.filter_nil, List.map_append]
          rfl
    · rintro H2 rfl
      rw [List.length_map, List.take_length, cset_zero hset]
      have hb : (upd H' b (.lst ((cset n ms 0).map V.int))) b = some (.lst ((cset n ms 0).map V.int)) := upd_same
      have s2 : Same H' (upd H' b (.lst ((cset n ms 0).map V.int))) := same_new nb
      have ha2 := s2 _ _ ha
      have hw2 := s2 _ _ hw
      have nb0 : H b = none := sL.free nb
      generalize upd H' b (.lst ((cset n ms 0).map V.int)) = H2 at *
      -- found = [bottom]
      refine ⟨_, rfl, sz_le (by show 1 ≤ _; omega), fun fl nfl => ?_⟩
      have s3 : Same H2 (upd H2 fl (.lst [.ref b])) := same_new nfl
      have hf : (upd H2 fl (.lst [.ref b])) fl = some (.lst [.ref b]) := upd_same
      have bfl : b ≠ fl := ne_of_none hb nfl
      have hb3 := s3 _ _ hb
      have ha3 := s3 _ _ ha2
      have hw3 := s3 _ _ hw2
      have nfl0 : H fl = none := (sL.trans s2).free nfl
      have s03 := (sL.trans s2).trans s3
      generalize upd H2 fl (.lst [.ref b]) = H3 at *
      -- alone + waiting
      refine ⟨_, rfl, _, rfl, al, wa, _, _, rfl, rfl, ha3, hw3, sz_le (by rw [List.length_map, List.length_map]; omega), fun c nc => ?_⟩
      rw [← List.map_append, show (fin n ms).aln ++ (fin n ms).wt = loo n ms from rfl]
      have s4 : Same H3 (upd H3 c (.lst ((loo n ms).map V.int))) := same_new nc
      have hc : (upd H3 c (.lst ((loo n ms).map V.int))) c = some (.lst ((loo n ms).map V.int)) := upd_same
      have hf4 := s4 _ _ hf
      have hb4 := s4 _ _ hb3
      have s04 := s03.trans s4
      have nc0 : H c = none := s03.free nc
      have cfl : c ≠ fl := (ne_of_none hf nc).symm
      generalize upd H3 c (.lst ((loo n ms).map V.int)) = H4 at *
      refine ⟨c, rfl, ⟨_, SqL.of hc⟩, ?_⟩
      refine for_list (K := K) (a := c) (xs := (loo n ms).map V.int) (fun i σ H5 => Same H H5 ∧ H5 c = some (.lst ((loo n ms).map V.int)) ∧ ∃ (as : List Addr) (y : Option V), σ = [some (.int (n : Int)), some (.ref a), some (.ref al), some (.ref wa), y, some (.ref b), some (.ref fl)] ∧
        (∀ x ∈ as, H x = none) ∧ as.Nodup ∧ fl ∉ as ∧ H5 fl = some (.lst (as.map V.ref)) ∧ Rows H5 as ((List.range (i + 1)).map (cset n ms)))
        ⟨s04, hc, [b], none, rfl, ?_, by simp, ?_, hf4, .cons hb4 .nil⟩ (fun i σ H' _ ⟨_, e, _⟩ => SqL.of e) ?_ ?_
      · intro x hx
        rw [List.mem_singleton] at hx
        rw [hx]
        exact nb0
      · intro hx
        rw [List.mem_singleton] at hx
        exact bfl hx.symm
      · rintro i x σ H5 hi ⟨s5, hc5, as, y, rfl, nas, nd, flas, hf5, hr5⟩
        obtain ⟨v, hv, rfl⟩ := at_map hi
        have il := (List.getElem?_eq_some_iff.mp hv).1
        have las : as.length = i + 1 := by
          rw [hr5.len, List.length_map, List.length_range]
        obtain ⟨r, w, ew⟩ : ∃ r w, as = r ++ [w] := by
          rcases snoc_cases as with z | z
          · rw [z] at las; cases las
          · exact z
        have hw5 : H5 w = some (.lst ((cset n ms i).map V.int)) := by
          have gi : ((List.range (i + 1)).map (cset n ms))[i]? = some (cset n ms i) := by
            rw [List.getElem?_map, List.getElem?_range (by omega)]
            rfl
          obtain ⟨w', e1, e2⟩ := hr5.get gi
          have lr : r.length = i := by
            have := las
            rw [ew, List.length_append, List.length_singleton] at this
            omega
          rw [ew, List.getElem?_append_right (by omega), lr, Nat.sub_self] at e1
          cases e1
          exact e2
        have hfl5 : H5 fl = some (.lst (r.map V.ref ++ [.ref w])) := by
          rw [hf5, ew, List.map_append]
          rfl
        have lcs : (cset n ms i).length ≤ n := (cset_set n ms i).len
        refine ⟨_, rfl, .inl ⟨rfl, _, SqL.of hf5⟩, _, rfl, 1, rfl, fl, _, -1, .ref w, rfl, rfl, SqL.of hfl5, atI_last _ _, _, rfl, sz_le (by show 1 ≤ _; omega), fun l nl => ?_⟩
        have s6 : Same H5 (upd H5 l (.lst [.int v])) := same_new nl
        refine ⟨w, l, _, _, rfl, rfl, s6 _ _ hw5, upd_same, sz_le (by rw [List.length_map]; show (cset n ms i).length + 1 ≤ _; omega), fun d nd' => ?_⟩
        have s7 : Same (upd H5 l (.lst [.int v])) (upd (upd H5 l (.lst [.int v])) d (.lst ((cset n ms i).map V.int ++ [.int v]))) := same_new nd'
        refine ⟨d, cset n ms i ++ [v], rfl, SqL.of (by rw [upd_same, List.map_append]; rfl), fun q nq => ?_⟩
        rw [cset_next hv]
        have s8 := (s6.trans s7).trans (same_new (o := .lst ((cset n ms (i + 1)).map V.int)) nq)
        have hq : (upd (upd (upd H5 l (.lst [.int v])) d (.lst ((cset n ms i).map V.int ++ [.int v]))) q (.lst ((cset n ms (i + 1)).map V.int))) q = some (.lst ((cset n ms (i + 1)).map V.int)) := upd_same
        have nq5 : H5 q = none := (s6.trans s7).free nq
        generalize upd (upd (upd H5 l (.lst [.int v])) d (.lst ((cset n ms i).map V.int ++ [.int v]))) q (.lst ((cset n ms (i + 1)).map V.int)) = H8 at *
        have hf8 := s8 _ _ hf5
        have qfl : fl ≠ q := ne_of_none hf5 nq5
        refine ⟨fl, _, _, rfl, rfl, hf8, sz_lt (by rw [List.length_map]; omega), ?_⟩
        refine ⟨same_mut (s5.trans s8) nfl0, by rw [upd_ne cfl]; exact s8 _ _ hc5, as ++ [q], some (.int v), rfl, ?_, ?_, ?_, ?_, ?_⟩
        · intro x hx
          rcases List.mem_append.mp hx with hx | hx
          · exact nas x hx
          · rw [List.mem_singleton] at hx
            rw [hx]
            exact s5.free nq5
        · refine List.nodup_append.mpr ⟨nd, by simp, fun x hx y hy e => ?_⟩
          rw [List.mem_singleton] at hy
          subst hy e
          obtain ⟨_, _, h2⟩ := hr5.mem hx
          rw [h2] at nq5
          cases nq5
        · intro hx
          rcases List.mem_append.mp hx with hx | hx
          · exact flas hx
          · rw [List.mem_singleton] at hx
            exact qfl hx
        · rw [upd_same, List.map_append]
          rfl
        · rw [List.range_succ, List.map_append]
          refine Rows.snoc ((hr5.same s8).upd flas) ?_
          rw [upd_ne qfl.symm]
          exact hq
      · rintro σ H5 ⟨s5, hc5, as, y, rfl, nas, nd, flas, hf5, hr5⟩
        rw [List.length_map] at hr5
        exact ⟨_, rfl, gg _ fl as ⟨s5, nfl0, nas, nd, flas, hf5, hr5⟩⟩
/-! #### _law_cell_at -/
def cellI (ns : List Int) (k : Nat) : Int := ns.getD k 0
def spCellAt (K : PySem.W.Frag) : Sp := fun vs H Q _ => ∃ (a : Addr) (ns : List Int) (k : Nat), vs = [.ref a, .int (k : Int)] ∧ SqL K H a (ns.map V.int) ∧ Q (.int (cellI ns k)) H
theorem ok__law_cell_at (A : At K mg "_law_cell_at" s__law_cell_at) (B : Bt mg tM) :
    Def P w K mg base CX0 1 "_law_cell_at" ["script", "k"] (spCellAt K) := by
  obtain ⟨f, fd, F, gm⟩ := A
  refine ⟨⟨f, fd, F.ok sc__law_cell_at (fun vs H Q E h => ?_) (fun cdv A outer s H vs Q E hr h => ?_), gm, F.kp, F.binds fun _ _ _ _ _ _ us hl => match us, hl with | [_, _], _ => rfl⟩⟩
  · obtain ⟨a, ns, k, rfl, _⟩ := h
    rfl
  · obtain ⟨a, ns, k, rfl, hS, q⟩ := h
    refine ⟨_, (pss_cons (ps_if (pt_cmpR op_lt (pv 1) (pe_callB call_len_seq (by rfl) B.len (by decide +kernel) (pa_cons (pv 0) pa_nil)) (nomark _)) (pss_one (ps_ret (pe_ix ix_list (pv 0) (pv 1) (fun _ _ => rfl)))) pss_nil)
    (pss_one (ps_ret pe_int))), ?_⟩
    refine ⟨_, rfl, _, rfl, a, _, rfl, .inl hS, _, _, rfl, rfl, _, rfl, ite2 (fun h1 => ?_) (fun h1 => ?_)⟩
    · have h1 := of_decide_eq_true h1
      rw [List.length_map] at h1
      have hk : k < ns.length := by omega
      have e : ns[k]? = some (cellI ns k) := by
        unfold cellI
        rw [List.getD_eq_getElem?_getD, List.getElem?_eq_getElem hk]
        rfl
      exact ⟨_, rfl, _, rfl, a, _, _, _, rfl, rfl, hS, atI_int rfl e, q⟩
    · have h1 : ¬ _ := fun z => h1 (decide_eq_true z)
      rw [List.length_map] at h1
      have e : cellI ns k = 0 := by
        unfold cellI
        rw [List.getD_eq_getElem?_getD, List.getElem?_eq_none (by omega)]
        rfl
      rw [e] at q
      exact q
/-! #### _law_all_sets -/
theorem Rows.app {H : Hp} {as bs : List Addr} {rs ts : List (List Int)} (h : Rows H as rs) (g : Rows H bs ts) : Rows H (as ++ bs) (rs ++ ts) := by
  unfold Rows at *
  induction h with
  | nil => exact g
  | cons q t ih => exact .cons q ih
def spAllSets : Sp := fun vs H Q _ => ∃ n : Nat, vs = [.int (n : Int)] ∧ n ≤ 8 ∧ ∀ H' p as, Same H H' → H' p = some (.lst (as.map V.ref)) → Rows H' as (allL n) → Q (.ref p) H'
theorem ok__law_all_sets (A : At K mg "_law_all_sets" s__law_all_sets) (B : Bt mg tM) :
    Def P w K mg base CX0 1 "_law_all_sets" ["size"] spAllSets := by
  obtain ⟨f, fd, F, gm⟩ := A
  refine ⟨⟨f, fd, F.ok sc__law_all_sets (fun vs H Q E h => ?_) (fun cdv A outer s H vs Q E hr h => ?_), gm, F.kp, F.binds fun _ _ _ _ _ _ us hl => match us, hl with | [_], _ => rfl⟩⟩
  · obtain ⟨n, rfl, _⟩ := h
    rfl
  · obtain ⟨n, rfl, hn, q⟩ := h
    refine ⟨_, (pss_cons (ps_set (i := 1) sc__law_all_sets.nd rfl (.inl rfl) (pe_lst (pa_cons (pe_lst pa_nil) pa_nil)))
    (pss_cons (ps_for PassesOwn.never rfl (pi_range1 (by rfl) B.range (pa_cons (pv 0) pa_nil)) (pg_name (i := 2) sc__law_all_sets.nd rfl (.inr rfl)) (pss_one (ps_set (i := 1) sc__law_all_sets.nd rfl (.inl rfl) (pe_op op_cat (pv 1) (pe_lc (own := [("row", 3)]) (g := gName 3) (by rfl) sc__law_all_sets.nd (pi_list (pv 1)) (blkOk_by (N := ["size", "rows", "thing", "row"]) (sc := defScope s__law_all_sets) (by decide +kernel)) (fun _ _ _ _ _ => (pg_name (i := 3) sc__law_all_sets.nd rfl (.inl rfl))) (fun _ _ _ _ _ => pts_nil) (fun _ _ _ _ _ => (pe_op op_cat (pv 3) (pe_lst (pa_cons (pv 2) pa_nil)))))))))
    (pss_one (ps_ret (pv 1))))), ?_⟩
    refine ⟨sz_le (by show 0 ≤ _; omega), fun e ne => ?_⟩
    have s1 : Same H (upd H e (.lst [])) := same_new ne
    have he : (upd H e (.lst [])) e = some (.lst (([] : List Int).map V.int)) := upd_same
    generalize upd H e (.lst []) = H1 at *
    refine ⟨sz_le (by show 1 ≤ _; omega), fun r nr => ?_⟩
    have s2 : Same H1 (upd H1 r (.lst [.ref e])) := same_new nr
    have hr0 : (upd H1 r (.lst [.ref e])) r = some (.lst (([e] : List Addr).map V.ref)) := upd_same
    have he2 := s2 _ _ he
    have s02 := s1.trans s2
    generalize upd H1 r (.lst [.ref e]) = H2 at *
    refine ⟨_, rfl, (n : Int), rfl, by omega, by omega, ?_⟩
    refine for_range (lo := 0) (n := ((n : Int)).toNat) (fun i σ H' => Same H H' ∧ ∃ (r : Addr) (as : List Addr) (y : Option V), σ = [some (.int (n : Int)), some (.ref r), y, none] ∧ H' r = some (.lst (as.map V.ref)) ∧ Rows H' as (allL i))
      ⟨s02, r, [e], none, rfl, hr0, .cons he2 .nil⟩ ?_ ?_
    · rintro i σ H3 hi ⟨s3, r, as, y, rfl, hr3, hrs⟩
      have hi' : i < n := by omega
      have pw : 2 ^ i ≤ 2 ^ 8 := Nat.pow_le_pow_right (by decide) (by omega)
      have pw' : 2 ^ i ≤ 256 := pw
      have la := allL_len i
      have ei : ((0 : Int) + (i : Int)) = (i : Int) := Int.zero_add _
      refine ⟨_, rfl, _, rfl, r, rfl, ⟨_, SqL.of hr3⟩, fun D nD => ?_⟩
      have rD : r ≠ D := ne_of_none hr3 nD
      refine lc_list (K := K) (a := r) (xs := as.map V.ref) (fun j H' => Same H3 H' ∧ ∃ bs, H' D = some (.lst (bs.map V.ref)) ∧ Rows H' bs (((allL i).take j).map fun r => r ++ [(i : Int)]) ∧ D ∉ bs) ⟨same_new nD, [], by rw [upd_same]; rfl, by rw [List.take_zero]; exact .nil, by simp⟩ (fun j H' _ ⟨s, _⟩ => SqL.of (s _ _ hr3)) ?_ ?_
      · rintro j x H4 hj ⟨s4, bs, hD, hb, Db⟩
        have jl : j < (allL i).length := by
          have := (List.getElem?_eq_some_iff.mp hj).1
          rw [List.length_map, hrs.len] at this
          exact this
        have gj : (allL i)[j]? = some (allL i)[j] := List.getElem?_eq_getElem jl
        have rl := (allL_set (List.getElem_mem jl)).len
        generalize (allL i)[j] = t at *
        obtain ⟨b, eb, hb3⟩ := hrs.get gj
        have ex : x = .ref b := by
          rw [List.getElem?_map, eb] at hj
          exact (Option.some.inj hj).symm
        subst ex
        refine ⟨rfl, ?_⟩
        refine tyes ?_
        refine iteT ?_
        refine ⟨_, rfl, _, rfl, sz_le (by show 1 ≤ _; omega), fun l nl => ?_⟩
        have s5 : Same H4 (upd H4 l (.lst [.int ((0 : Int) + (i : Int))])) := same_new nl
        refine ⟨b, l, _, _, rfl, rfl, s5 _ _ (s4 _ _ hb3), upd_same, sz_le (by rw [List.length_map]; show t.length + 1 ≤ _; omega), fun d nd => ?_⟩
        have s6 := s5.trans (same_new (o := .lst (t.map V.int ++ [.int ((0 : Int) + (i : Int))])) nd)
        have hd : (upd (upd H4 l (.lst [.int ((0 : Int) + (i : Int))])) d (.lst (t.map V.int ++ [.int ((0 : Int) + (i : Int))]))) d = some (.lst ((t ++ [(i : Int)]).map V.int)) := by rw [upd_same, List.map_append, ei]; rfl
        have nd4 : H4 d = none := s5.free nd
        generalize upd (upd H4 l (.lst [.int ((0 : Int) + (i : Int))])) d (.lst (t.map V.int ++ [.int ((0 : Int) + (i : Int))])) = H6 at *
        have Dd : D ≠ d := ne_of_none hD nd4
        refine ⟨_, s6 _ _ hD, sz_lt (by rw [List.length_map, hb.len, List.length_map, List.length_take]; omega), same_mut (s4.trans s6) nD, bs ++ [d], ?_, ?_, ?_⟩
        · rw [upd_same, List.map_append]
          rfl
        · rw [take_snoc gj, List.map_append]
          refine Rows.snoc ((hb.same s6).upd Db) ?_
          rw [upd_ne Dd.symm]
          exact hd
        · intro hx
          rcases List.mem_append.mp hx with hx | hx
          · exact Db hx
          · exact Dd (List.mem_singleton.mp hx)
      · rintro H4 ⟨s4, bs, hD, hb, Db⟩
        rw [List.length_map, hrs.len, List.take_length] at hb
        have lb := hb.len
        rw [List.length_map] at lb
        refine ⟨r, D, _, _, rfl, rfl, s4 _ _ hr3, hD, sz_le (by rw [List.length_map, List.length_map, hrs.len, lb]; omega), fun d nd => ?_⟩
        have s5 : Same H4 (upd H4 d (.lst (as.map V.ref ++ bs.map V.ref))) := same_new nd
        refine ⟨(s3.trans s4).trans s5, d, as ++ bs, _, rfl, ?_, ?_⟩
        · rw [upd_same, List.map_append]
        · exact Rows.app (hrs.same (s4.trans s5)) (hb.same s5)
    · rintro σ H3 ⟨s3, r, as, y, rfl, hr3, hrs⟩
      rw [show ((n : Int)).toNat = n from rfl] at hrs
      exact ⟨_, rfl, q H3 r as s3 hr3 hrs⟩
/-! #### the law -/
def spLaw (K : PySem.W.Frag) : Sp := fun vs H Q _ => ∃ (a : Addr) (ns : List Int), vs = [.ref a] ∧ SqL K H a (ns.map V.int) ∧ ns.length ≤ 63 ∧ ∀ H', Q (.bl true) H'
/-- l.count(x), items that are data of any depth -/
def rCountD (K : PySem.W.Frag) : V → List V → Hp → VK → Prop := fun x xs H Q => ∃ (a : Addr) (y : V) (d : PyData) (ds : List PyData), x = V.ref a ∧ xs = [y] ∧ Dp K H (V.ref a) (.list ds) ∧ Dp K H y d ∧ SeqAt.shaped (.list ds) = true ∧ SeqAt.shaped d = true ∧ Q (.int (ds.countP fun z => PyData.eqv z d : Nat)) H
theorem mt_countD {X : Cx} (hu : X.A.units + 65 < cLine) : MtR X "list.count" (rCountD X.K) := by
  intro pins s σ H x xs v us Q I rx rxs h
  obtain ⟨a, y, d, ds, rfl, rfl, hl, hy, sl, sd, q⟩ := h
  cases rx
  cases rxs with
  | cons ry rt =>
    rename_i uy ut
    cases rt
    obtain ⟨bs, r1⟩ := Dp.reads I d y uy hy ry
    have lay : PyData.canLayAll0 ds = true := SeqAt.canLay_of_shaped sl
    have room : X.A.units + 1 + min (PyData.depthAll ds) d.depth < cLine := room_in_shaped sd hu
    cases hl with
    | lst hs ha =>
      obtain ⟨its, rv, ⟨⟨cls, dd, data, sls⟩, n, ho, hc, hdn, hdt⟩, hlen⟩ := I.list hs
      dsimp only at hc hdt
      subst hc hdt
      obtain ⟨as, h4⟩ := Dp.readsAll I ds _ its ha rv
      have hmap : its.map (SeqAt.readOf s.heap) = ds := SeqAt.readsAll_map ds its as lay h4
      have all : ReadsAll s.heap its.toArray.toList ds as := h4
      refine call_meets PySem.F.slot_list_count ⟨_, ho, rfl⟩ PySem.F.entry_list_count (PySem.F.args_list_count_2 _ _) (SeqAt.list_countAt a its.toArray n dd sls uy fun u => PyData.eqv (SeqAt.readOf s.heap u) d) ⟨ho, SeqAt.items_eqAt all r1 lay (SeqAt.canLay_of_shaped sd) room, ?_⟩
      refine ⟨.int (ds.countP fun z => PyData.eqv z d : Nat), H, I.tok _, ⟨s.toks, ?_⟩, q⟩
      rw [← hmap, List.countP_map]
      rfl
theorem dL_count (rs : List (List Int)) (r : List Int) : ((rs.map dI).countP fun z => PyData.eqv z (dI r)) = rs.countP fun x => decide (x = r) := by
  rw [List.countP_map]
  congr 1
  funext x
  exact dI_eqv x r
/-! tables whose keys are tuples of ints -/
def encT (es : List (List Int × V)) : List (List Key × V) := es.map fun e => (e.1.map Sum.inl, e.2)
theorem inl_inj {l m : List Int} (h : l.map (Sum.inl : Int → Key) = m.map Sum.inl) : l = m := by
  induction l generalizing m with
  | nil =>
    cases m with
    | nil => rfl
    | cons y m => cases h
  | cons x l ih =>
    cases m with
    | nil => cases h
    | cons y m =>
      injection h with h1 h2
      injection h1 with h1
      rw [h1, ih h2]
theorem kV_ints (m : List Int) : (m.map (Sum.inl : Int → Key)).map kV = m.map V.int := by
  rw [List.map_map]
  rfl
theorem valV_enc {es : List (List Int × V)} (nd : (es.map (·.1)).Nodup) {m : List Int} {v : V} (h : (m, v) ∈ es) : valV (encT es) (m.map Sum.inl) = some v := by
  induction es with
  | nil => exact nomatch h
  | cons e es ih =>
    rw [List.map_cons] at nd
    obtain ⟨h1, h2⟩ := List.nodup_cons.mp nd
    unfold encT at *
    rw [List.map_cons]
    by_cases z : e.1 = m
    · have ev : e = (m, v) := by
        rcases List.mem_cons.mp h with w | w
        · exact w.symm
        · exact absurd (List.mem_map.mpr ⟨_, w, z.symm⟩) h1
      rw [valV_pos (by dsimp only; rw [z]), ev]
    · rw [valV_neg (fun w => z (inl_inj w))]
      refine ih h2 ((List.mem_cons.mp h).resolve_left fun w => z ?_)
      rw [← w]
theorem putK_new {es : List (List Int × V)} {m : List Int} {v : V} (h : m ∉ es.map (·.1)) : putK (encT es) (m.map Sum.inl) v = encT (es ++ [(m, v)]) := by
  unfold putK
  rw [if_neg]
  · unfold encT
    rw [List.map_append]
    rfl
  · intro z
    obtain ⟨kv, h1, h2⟩ := List.any_eq_true.mp z
    obtain ⟨e, he, rfl⟩ := List.mem_map.mp h1
    exact h (List.mem_map.mpr ⟨e, he, inl_inj (of_decide_eq_true h2)⟩)
theorem putK_ded {ks : List (List Int)} {m : List Int} : putK (encT (ks.map fun k => (k, V.bl true))) (m.map Sum.inl) (.bl true) = encT ((if m ∈ ks then ks else ks ++ [m]).map fun k => (k, V.bl true)) := by
  by_cases h : m ∈ ks
  · rw [if_pos h]
    unfold putK
    rw [if_pos]
    · refine (List.map_congr_left fun kv hkv => ?_).trans (List.map_id _)
      split
      · obtain ⟨e, he, rfl⟩ := List.mem_map.mp hkv
        obtain ⟨k, _, rfl⟩ := List.mem_map.mp he
        rfl
      · rfl
    · refine List.any_eq_true.mpr ⟨(m.map Sum.inl, V.bl true), ?_, decide_eq_true rfl⟩
      exact List.mem_map.mpr ⟨(m, V.bl true), List.mem_map.mpr ⟨m, h, rfl⟩, rfl⟩
  · rw [if_neg h, putK_new, List.map_append]
    · rfl
    · intro z
      obtain ⟨e, he, w⟩ := List.mem_map.mp z
      obtain ⟨k, hk, rfl⟩ := List.mem_map.mp he
      have w : k = m := w
      exact h (w ▸ hk)
/-- the table of the sets' counts -/
def esN (n k : Nat) : List (List Int × V) := (List.range k).map fun j => ((allL n).getD j [], V.int (j : Int))
theorem esN_fst {n k : Nat} (h : k ≤ (allL n).length) : (esN n k).map (·.1) = (allL n).take k := by
  unfold esN
  rw [List.map_map]
  refine List.ext_getElem? fun i => ?_
  by_cases hi : i < k
  · rw [List.getElem?_map, List.getElem?_range hi, List.getElem?_take_of_lt hi]
    show some ((allL n).getD i []) = _
    rw [List.getD_eq_getElem?_getD, List.getElem?_eq_getElem (show i < (allL n).length by omega)]
    rfl
  · rw [List.getElem?_eq_none (by rw [List.length_map, List.length_range]; omega), List.getElem?_eq_none (by rw [List.length_take]; omega)]
theorem fresh_at {rows : List (List Int)} {k : Nat} {r : List Int} (nd : rows.Nodup) (h : rows[k]? = some r) : r ∉ rows.take k := by
  have n2 : (rows.take (k + 1)).Nodup := nd.sublist (List.take_sublist _ _)
  rw [take_snoc h] at n2
  exact fun z => (List.nodup_append.mp n2).2.2 r z r (List.mem_singleton.mpr rfl) rfl
/-! chains in the heap -/
def ChAt (F : Addr) (H : Hp) (c : Addr) (rows : List (List Int)) : Prop := ∃ as, H c = some (.lst (as.map V.ref)) ∧ Rows H as rows ∧ c ≠ F ∧ F ∉ as
def Chs (F : Addr) (H : Hp) (n : Nat) (cs : List Addr) (rs : List (List Int)) : Prop := Paired (fun c r => ChAt F H c (chainL n r)) cs rs
theorem Chs.same {F : Addr} {H H' : Hp} {n : Nat} {cs : List Addr} {rs : List (List Int)} (h : Chs F H n cs rs) (s : Same H H') : Chs F H' n cs rs := Paired.mapP h fun _ _ ⟨as, h1, h2, h3, h4⟩ => ⟨as, s _ _ h1, h2.same s, h3, h4⟩
theorem Chs.updF {F : Addr} {H : Hp} {n : Nat} {cs : List Addr} {rs : List (List Int)} {o : HO} (h : Chs F H n cs rs) : Chs F (upd H F o) n cs rs := Paired.mapP h fun _ _ ⟨as, h1, h2, h3, h4⟩ => ⟨as, by rw [upd_ne h3]; exact h1, h2.upd h4, h3, h4⟩
theorem rows_updT {H : Hp} {as : List Addr} {rs : List (List Int)} {d : Addr} {kvs : List (List Key × V)} {o : HO} (h : Rows H as rs) (e : H d = some (.dT kvs)) : Rows (upd H d o) as rs :=
  Paired.mapP h fun _ _ q => by rw [upd_ne (ne_of q e (by intro z; cases z))]; exact q
theorem Chs.updT {F d : Addr} {H : Hp} {n : Nat} {cs : List Addr} {rs : List (List Int)} {kvs : List (List Key × V)} {o : HO} (h : Chs F H n cs rs) (e : H d = some (.dT kvs)) : Chs F (upd H d o) n cs rs :=
  Paired.mapP h fun _ _ ⟨as, h1, h2, h3, h4⟩ => ⟨as, by rw [upd_ne (ne_of h1 e (by intro z; cases z))]; exact h1, rows_updT h2 e, h3, h4⟩
theorem Chs.len {F : Addr} {H : Hp} {n : Nat} {cs : List Addr} {rs : List (List Int)} (h : Chs F H n cs rs) : cs.length = rs.length := Paired.length h
theorem Chs.get {F : Addr} {H : Hp} {n : Nat} {cs : List Addr} {rs : List (List Int)} (h : Chs F H n cs rs) {i : Nat} {r : List Int} (e : rs[i]? = some r) : ∃ c as, cs[i]? = some c ∧ H c = some (.lst (as.map V.ref)) ∧ Rows H as (chainL n r) := by
  have hl := h.len
  have hi : i < cs.length := by
    have := (List.getElem?_eq_some_iff.mp e).1
    omega
  obtain ⟨q', e', as, h1, h2, _⟩ := paired_get h (List.getElem?_eq_getElem hi)
  rw [e] at e'
  cases e'
  exact ⟨_, as, List.getElem?_eq_getElem hi, h1, h2⟩
theorem ok_law {C_NoMany : Addr} {C_NoSet : Addr} {f : Addr} {fd : FuncData} (F : Fun K "law" "law" s_law f fd) (B : Bt mg tM) (D__law_all_sets : Def P w K mg base CX0 1 "_law_all_sets" ["size"] spAllSets) (D__law_cell_at : Def P w K mg base CX0 1 "_law_cell_at" ["script", "k"] (spCellAt K)) (D_chain : Def P w K mg base (L2.CX P w) 3 "chain" ["many", "members"] (spChain K C_NoMany C_NoSet)) :
    FnOk P w K mg base CX0 4 f fd ["script"] (spLaw K) := by
  obtain ⟨f__law_all_sets, fd__law_all_sets, G__law_all_sets, g__law_all_sets, k__law_all_sets, b__law_all_sets⟩ := D__law_all_sets.ex
  obtain ⟨f__law_cell_at, fd__law_cell_at, G__law_cell_at, g__law_cell_at, k__law_cell_at, b__law_cell_at⟩ := D__law_cell_at.ex
  obtain ⟨f_chain, fd_chain, G_chain, g_chain, k_chain, b_chain⟩ := D_chain.ex
  refine F.ok sc_law (fun vs H Q E h => ?_) (fun cdv A outer s H vs Q E hr h => ?_)
  · obtain ⟨a, ns, rfl, _⟩ := h
    rfl
  · obtain ⟨a, ns, rfl, hS, hlen, q⟩ := h
    refine ⟨_, (pss_cons (ps_set (i := 1) sc_law.nd rfl (.inr rfl) (pe_op op_mod (pe_call G__law_cell_at (hr.mono (by decide)) (by rfl) g__law_cell_at k__law_cell_at b__law_cell_at .nil pass0 (pa_cons (pv 0) (pa_cons pe_int pa_nil))) pe_int))
    (pss_cons (ps_set (i := 2) sc_law.nd rfl (.inl rfl) (pe_call G__law_all_sets (hr.mono (by decide)) (by rfl) g__law_all_sets k__law_all_sets b__law_all_sets .nil pass0 (pa_cons (pv 1) pa_nil)))
    (pss_cons (ps_set (i := 3) sc_law.nd rfl (.inl rfl) pe_dnewT)
    (pss_cons (ps_set (i := 4) sc_law.nd rfl (.inl rfl) pe_dnewT)
    (pss_cons (ps_set (i := 5) sc_law.nd rfl (.inl rfl) (pe_lst pa_nil))
    (pss_cons (ps_for PassesOwn.never rfl (pi_range1 (by rfl) B.range (pa_cons (pe_callB call_len_seq (by rfl) B.len (by decide +kernel) (pa_cons (pv 2) pa_nil)) pa_nil)) (pg_name (i := 6) sc_law.nd rfl (.inl rfl)) (pss_cons (ps_dput (hu_of hr) (pv 3) (pe_callTy call_tuple_of (by rfl) B.tuple (by decide +kernel) (pa_cons (pe_ix ix_list (pv 2) (pv 6) (fun _ _ => rfl)) pa_nil)) (pv 6) rfl)
    (pss_cons (ps_expr (pe_bm PySem.F.plainAttrs_list PySem.F.slot_list_append PySem.F.type_list_append mt_append (pv 5) (pa_cons (pe_call G_chain (hr.mono (by decide)) (by rfl) g_chain k_chain b_chain .nil passL (pa_cons (pv 1) (pa_cons (pe_callTy call_list_of (by rfl) B.list (by decide +kernel) (pa_cons (pe_ix ix_list (pv 2) (pv 6) (fun _ _ => rfl)) pa_nil)) pa_nil))) pa_nil)))
    (pss_cons (ps_if (pt_cmpR op_ne (pe_bm PySem.F.plainAttrs_list PySem.F.slot_list_count PySem.F.type_list_count (mt_countD (inD_u hr)) (pe_ix ix_list (pv 5) (pv 6) (fun _ _ => rfl)) (pa_cons (pe_ix ix_list (pv 2) (pv 6) (fun _ _ => rfl)) pa_nil)) pe_int (nomark _)) (pss_one (ps_ret pe_bl)) pss_nil)
    (pss_one (ps_dput (hu_of hr) (pv 4) (pe_callTy call_tuple_of (by rfl) B.tuple (by decide +kernel) (pa_cons (pe_ix ix_list (pe_ix ix_list (pv 5) (pv 6) (fun _ _ => rfl)) pe_int (fun _ _ => rfl)) pa_nil)) pe_bl rfl))))))
    (pss_cons (ps_for PassesOwn.never rfl (pi_list (pv 5)) (pg_name (i := 7) sc_law.nd rfl (.inl rfl)) (pss_one (ps_for PassesOwn.never rfl (pi_list (pv 7)) (pg_name (i := 8) sc_law.nd rfl (.inl rfl)) (pss_one (ps_if (pt_cmpR (op_neD hr.units) (pe_ix ix_list (pv 5) (pe_dget (hu_of hr) (pv 3) (pe_callTy call_tuple_of (by rfl) B.tuple (by decide +kernel) (pa_cons (pv 8) pa_nil)) (fun _ _ => rfl)) (fun _ _ => rfl)) (pv 7) (nomark _)) (pss_one (ps_ret pe_bl)) pss_nil)))))
    (pss_one (ps_ret (pe_cmpR op_eq (pe_callB call_len_dT (by rfl) B.len (by decide +kernel) (pa_cons (pv 4) pa_nil)) (pe_callB call_len_seq (by rfl) B.len (by decide +kernel) (pa_cons (pe_lc (own := [("row", 8)]) (g := gName 8) (by rfl) sc_law.nd (pi_list (pv 2)) (blkOk_by (N := ["script", "size", "rows", "number_of_row", "bottoms", "found", "k", "one", "row"]) (sc := defScope s_law) (by decide +kernel)) (fun _ _ _ _ _ => (pg_name (i := 8) sc_law.nd rfl (.inl rfl))) (fun _ _ _ _ _ => (pts_one (pt_cmpR op_eq (pe_callB (call_len_seqK K) (by rfl) B.len (by decide +kernel) (pa_cons (pv 8) pa_nil)) (pe_op op_fdiv (pv 1) pe_int) (nomark _)))) (fun _ _ _ _ _ => (pv 8))) pa_nil)) (nomark _))))))))))), ?_⟩
    refine ⟨_, rfl, a, ns, 0, rfl, hS, _, _, rfl, rfl, (by show (0 : Int) < 7; decide), ?_⟩
    obtain ⟨n, hn, e⟩ : ∃ n : Nat, n ≤ 6 ∧ cellI ns 0 % 7 = (n : Int) := ⟨(cellI ns 0 % 7).toNat, by omega, by omega⟩
    show gName 1 (V.int (cellI ns 0 % 7)) _ _ _
    rw [e]
    have en : ((n : Int)).toNat = n := rfl
    have e2 : ((n : Int) / 2) = ((n / 2 : Nat) : Int) := by omega
    refine ⟨_, rfl, n, rfl, by omega, fun H1 p as s1 hp hr0 => ?_⟩
    have la := allL_len n
    have pw : 2 ^ n ≤ 2 ^ 6 := Nat.pow_le_pow_right (by decide) (by omega)
    have pw' : 2 ^ n ≤ 64 := pw
    have las := hr0.len
    -- the tables, the list
    intro d1 nd1
    have s2 : Same H1 (upd H1 d1 (.dT [])) := same_new nd1
    have h1 : (upd H1 d1 (.dT [])) d1 = some (.dT (encT (esN n 0))) := upd_same
    generalize upd H1 d1 (.dT []) = H2 at *
    intro d2 nd2
    have s3 : Same H2 (upd H2 d2 (.dT [])) := same_new nd2
    have h2 : (upd H2 d2 (.dT [])) d2 = some (.dT (encT ((ded []).map fun k => (k, V.bl true)))) := upd_same
    have h13 := s3 _ _ h1
    have d12 : d1 ≠ d2 := ne_of_none h1 nd2
    generalize upd H2 d2 (.dT []) = H3 at *
    refine ⟨sz_le (by show 0 ≤ _; omega), fun F nF => ?_⟩
    have s4 : Same H3 (upd H3 F (.lst [])) := same_new nF
    have hF : (upd H3 F (.lst [])) F = some (.lst (([] : List Addr).map V.ref)) := upd_same
    have h14 := s4 _ _ h13
    have h24 := s4 _ _ h2
    have s14 : Same H1 (upd H3 F (.lst [])) := (s2.trans s3).trans s4
    have nd2' : H1 d2 = none := s2.free nd2
    have nF' : H1 F = none := (s2.trans s3).free nF
    generalize upd H3 F (.lst []) = H4 at *
    have hp4 := s14 _ _ hp
    refine ⟨_, rfl, p, _, rfl, .inl (SqL.of hp4), _, rfl, by omega, by rw [List.length_map]; omega, ?_⟩
    have el : (((as.map V.ref).length : Nat) : Int).toNat = (allL n).length := by rw [List.length_map, las]; rfl
    refine for_range (lo := 0) (n := (((as.map V.ref).length : Nat) : Int).toNat) (fun i σ H' => Same H1 H' ∧ ∃ (cs : List Addr) (y : Option V), σ = [some (.ref a), some (.int (n : Int)), some (.ref p), some (.ref d1), some (.ref d2), some (.ref F), y, none, none] ∧
      H' d1 = some (.dT (encT (esN n i))) ∧ H' d2 = some (.dT (encT ((ded (((allL n).take i).map fun r => cset n r 0)).map fun k => (k, V.bl true)))) ∧ H' F = some (.lst (cs.map V.ref)) ∧ Chs F H' n cs ((allL n).take i)) ⟨s14, [], none, rfl, h14, by rw [List.take_zero]; exact h24, hF, by rw [List.take_zero]; exact .nil⟩ ?_ ?_
    · rintro i σ H5 hi ⟨s5, cs, y, rfl, g1, g2, gF, gC⟩
      rw [el] at hi
      have gi : (allL n)[i]? = some (allL n)[i] := List.getElem?_eq_getElem hi
      have hset : IsSet n (allL n)[i] := allL_set (List.getElem_mem hi)
      have nin : (allL n)[i] ∉ (allL n).take i := fresh_at (allL_nd n) gi
      generalize hR : (allL n)[i] = r at *
      have ei : ((0 : Int) + (i : Int)) = (i : Int) := Int.zero_add _
      have rl := hset.len
      have hr5 := hr0.same s5
      obtain ⟨b, eb, hb⟩ := hr5.get gi
      have ab : atI (as.map V.ref) ((0 : Int) + (i : Int)) = some (.ref b) := by
        rw [ei]
        exact atI_nat (by rw [List.getElem?_map, eb]; rfl)
      have lC := gC.len
      rw [List.length_take, Nat.min_eq_left (by omega)] at lC
      -- number_of_row[tuple(rows[k])] = k
      refine ⟨_, rfl, _, rfl, _, rfl, _, rfl, p, _, _, _, rfl, rfl, s5.seq (SqL.of hp), ab, b, _, rfl, .inl ⟨SqL.of hb, fun T nT => ?_⟩⟩
      have s6 : Same H5 (upd H5 T (.tup (r.map V.int))) := same_new nT
      have hT : (upd H5 T (.tup (r.map V.int))) T = some (.tup ((r.map (Sum.inl : Int → Key)).map kV)) := by rw [upd_same, kV_ints]
      have g16 := s6 _ _ g1
      have g26 := s6 _ _ g2
      have gF6 := s6 _ _ gF
      have gC6 := gC.same s6
      have s56 := s5.trans s6
      generalize upd H5 T (.tup (r.map V.int)) = H6 at *
      refine ⟨d1, _, rfl, DPut.t g16 hT (sz_lt (by unfold encT esN; rw [List.length_map, List.length_map, List.length_range]; omega)), ?_⟩
      have eP : putK (encT (esN n i)) (r.map Sum.inl) (V.int ((0 : Int) + (i : Int))) = encT (esN n (i + 1)) := by
        rw [putK_new (by rw [esN_fst (by omega)]; exact nin), ei]
        unfold esN
        rw [List.range_succ, List.map_append]
        congr 2
        show [(r, V.int (i : Int))] = [((allL n).getD i [], V.int (i : Int))]
        rw [List.getD_eq_getElem?_getD, gi]
        rfl
      rw [eP]
      have s7 : Same H1 (upd H6 d1 (.dT (encT (esN n (i + 1))))) := same_mut s56 nd1
      have g17 : (upd H6 d1 (.dT (encT (esN n (i + 1))))) d1 = some (.dT (encT (esN n (i + 1)))) := upd_same
      have g27 : (upd H6 d1 (.dT (encT (esN n (i + 1))))) d2 = _ := (upd_ne d12.symm).trans g26
      have gF7 : (upd H6 d1 (.dT (encT (esN n (i + 1))))) F = _ := (upd_ne (ne_of gF6 g16 (by intro z; cases z))).trans gF6
      have gC7 := gC6.updT (o := .dT (encT (esN n (i + 1)))) g16
      generalize upd H6 d1 (.dT (encT (esN n (i + 1)))) = H7 at *
      obtain ⟨r', er', hb7⟩ := (hr0.same s7).at eb
      rw [gi] at er'
      cases er'
      -- found.append(chain(size, list(rows[k])))
      refine ⟨_, rfl, .inl ⟨rfl, _, SqL.of gF7⟩, _, rfl, _, rfl, _, rfl, p, _, _, _, rfl, rfl, s7.seq (SqL.of hp), ab, b, _, rfl, .inl (SqL.of hb7), fun g ng => ?_⟩
      have s8 : Same H7 (upd H7 g (.lst (r.map V.int))) := same_new ng
      have hg : (upd H7 g (.lst (r.map V.int))) g = some (.lst (r.map V.int)) := upd_same
      have g18 := s8 _ _ g17
      have g28 := s8 _ _ g27
      have gF8 := s8 _ _ gF7
      have gC8 := gC7.same s8
      have s78 := s7.trans s8
      generalize upd H7 g (.lst (r.map V.int)) = H8 at *
      refine ⟨(n : Int), g, r, rfl, SqL.of hg, Guard.of (by omega) hset fun H9 c cas hc => ?_⟩
      rw [en] at hc
      have s9 := s78.trans hc.same
      have g19 := hc.same _ _ g18
      have g29 := hc.same _ _ g28
      have gF9 := hc.same _ _ gF8
      have gC9 := gC8.same hc.same
      have cF : c ≠ F := (ne_of_none gF8 hc.np).symm
      have Fas : F ∉ cas := fun z => by
        rw [hc.nas F z] at gF8
        cases gF8
      refine ⟨F, _, _, rfl, rfl, gF9, sz_lt (by rw [List.length_map]; omega), ?_⟩
      have sA : Same H1 (upd H9 F (.lst (cs.map V.ref ++ [.ref c]))) := same_mut s9 nF'
      have g1A : (upd H9 F (.lst (cs.map V.ref ++ [.ref c]))) d1 = _ := (upd_ne (ne_of g19 gF9 (by intro z; cases z))).trans g19
      have g2A : (upd H9 F (.lst (cs.map V.ref ++ [.ref c]))) d2 = _ := (upd_ne (ne_of g29 gF9 (by intro z; cases z))).trans g29
      have gFA : (upd H9 F (.lst (cs.map V.ref ++ [.ref c]))) F = some (.lst ((cs ++ [c]).map V.ref)) := by
        rw [upd_same, List.map_append]
        rfl
      have hcA : (upd H9 F (.lst (cs.map V.ref ++ [.ref c]))) c = some (.lst (cas.map V.ref)) := (upd_ne cF).trans hc.lst
      have hrA : Rows (upd H9 F (.lst (cs.map V.ref ++ [.ref c]))) cas (chainL n r) := hc.rows.upd Fas
      have gCA : Chs F (upd H9 F (.lst (cs.map V.ref ++ [.ref c]))) n (cs ++ [c]) ((allL n).take i ++ [r]) := Paired.snoc gC9.updF ⟨cas, hcA, hrA, cF, Fas⟩
      generalize upd H9 F (.lst (cs.map V.ref ++ [.ref c])) = HA at *
      have atc : atI ((cs ++ [c]).map V.ref) ((0 : Int) + (i : Int)) = some (.ref c) := by
        rw [ei]
        refine atI_nat ?_
        rw [List.getElem?_map, List.getElem?_append_right (by omega), lC, Nat.sub_self]
        rfl
      obtain ⟨r', er', hbA⟩ := (hr0.same sA).at eb
      rw [gi] at er'
      cases er'
      -- found[k].count(rows[k]) != 1
      refine ⟨_, rfl, _, rfl, F, _, _, _, rfl, rfl, SqL.of gFA, atc, .inl ⟨rfl, _, SqL.of hcA⟩, _, rfl, _, rfl, p, _, _, _, rfl, rfl, sA.seq (SqL.of hp), ab, c, _, dI r, (chainL n r).map dI, rfl, rfl, dp_L (SqL.of hcA) hrA, dp_I (SqL.of hbA), dL_shaped _, dI_shaped _, rfl, _, rfl, ?_⟩
      rw [dL_count, count_one (chain_nd n r) (chainL_self hset), decide_eq_true (show V.int ((1 : Nat) : Int) = V.int 1 from rfl)]
      refine iteF ?_
      -- bottoms[tuple(found[k][0])] = True
      obtain ⟨b0, e0, hb0⟩ := hrA.get (chainL_get (n := n) (ms := r) (j := 0) (by omega))
      have at0 : atI (cas.map V.ref) 0 = some (.ref b0) := atI_nat (j := 0) (by rw [List.getElem?_map, e0]; rfl)
      refine ⟨_, rfl, _, rfl, _, rfl, F, _, _, _, rfl, rfl, SqL.of gFA, atc, c, _, 0, _, rfl, rfl, SqL.of hcA, at0, b0, _, rfl, .inl ⟨SqL.of hb0, fun T2 nT2 => ?_⟩⟩
      have sB : Same HA (upd HA T2 (.tup ((cset n r 0).map V.int))) := same_new nT2
      have hT2 : (upd HA T2 (.tup ((cset n r 0).map V.int))) T2 = some (.tup (((cset n r 0).map (Sum.inl : Int → Key)).map kV)) := by rw [upd_same, kV_ints]
      have g1B := sB _ _ g1A
      have g2B := sB _ _ g2A
      have gFB := sB _ _ gFA
      have gCB := gCA.same sB
      have sAB := sA.trans sB
      generalize upd HA T2 (.tup ((cset n r 0).map V.int)) = HB at *
      have dl : (ded (((allL n).take i).map fun r => cset n r 0)).length ≤ (allL n).length := by
        have sub : (ded (((allL n).take i).map fun r => cset n r 0)).length ≤ (((allL n).take i).map fun r => cset n r 0).length := by
          refine snoc_rec (P := fun l => (ded l).length ≤ l.length) (Nat.le_refl 0) (fun l x ih => ?_) _
          rw [ded_snoc, List.length_append, List.length_singleton]
          split
          · omega
          · rw [List.length_append, List.length_singleton]
            omega
        rw [List.length_map, List.length_take] at sub
        omega
      refine ⟨d2, _, rfl, DPut.t g2B hT2 (sz_lt (by unfold encT; rw [List.length_map, List.length_map]; omega)), ?_⟩
      rw [putK_ded]
      refine ⟨same_mut sAB nd2', cs ++ [c], _, rfl, ?_, ?_, ?_, ?_⟩
      · rw [upd_ne d12]
        exact g1B
      · rw [upd_same, take_snoc gi, List.map_append, List.map_singleton, ded_snoc]
      · rw [upd_ne (ne_of gFB g2B (by intro z; cases z))]
        exact gFB
      · rw [take_snoc gi]
        exact gCB.updT g2B
    · rintro σ H5 ⟨s5, cs, y, rfl, g1, g2, gF, gC⟩
      rw [el] at g1 g2 gC
      rw [List.take_length] at g2 gC
      have lC := gC.len
      -- the same chain
      refine ⟨_, rfl, F, rfl, ⟨_, SqL.of gF⟩, ?_⟩
      refine for_list (K := K) (a := F) (xs := cs.map V.ref) (fun i σ H' => Same H5 H' ∧ ∃ y z w : Option V, σ = [some (.ref a), some (.int (n : Int)), some (.ref p), some (.ref d1), some (.ref d2), some (.ref F), y, z, w]) ⟨Same.refl _, y, none, none, rfl⟩ (fun i σ H' _ ⟨s, _⟩ => SqL.of (s _ _ gF)) ?_ ?_
      · rintro i x σ H6 hi ⟨s6, y, z, w, rfl⟩
        have il : i < (allL n).length := by
          have := (List.getElem?_eq_some_iff.mp hi).1
          rw [List.length_map, lC] at this
          exact this
        have gi : (allL n)[i]? = some (allL n)[i] := List.getElem?_eq_getElem il
        have hset : IsSet n (allL n)[i] := allL_set (List.getElem_mem il)
        generalize hR : (allL n)[i] = r at *
        obtain ⟨c, cas, ec, hc, hcr⟩ := (gC.same s6).get gi
        have ex : x = .ref c := by
          rw [List.getElem?_map, ec] at hi
          exact (Option.some.inj hi).symm
        subst ex
        have ll := loo_len n r
        refine ⟨_, rfl, c, rfl, ⟨_, SqL.of hc⟩, ?_⟩
        refine for_list (K := K) (a := c) (xs := cas.map V.ref) (fun j σ H' => Same H6 H' ∧ ∃ w : Option V, σ = [some (.ref a), some (.int (n : Int)), some (.ref p), some (.ref d1), some (.ref d2), some (.ref F), y, some (.ref c), w]) ⟨Same.refl _, w, rfl⟩ (fun i σ H' _ ⟨s, _⟩ => SqL.of (s _ _ hc)) ?_ ?_
        · rintro j x σ H7 hj ⟨s7, w, rfl⟩
          have jl : j < (chainL n r).length := by
            have := (List.getElem?_eq_some_iff.mp hj).1
            rw [List.length_map, hcr.len] at this
            exact this
          have jl' : j ≤ (loo n r).length := by rw [chainL_len] at jl; omega
          have gj := chainL_get (n := n) (ms := r) jl'
          obtain ⟨b, eb, hb⟩ := (hcr.same s7).get gj
          have ex : x = .ref b := by
            rw [List.getElem?_map, eb] at hj
            exact (Option.some.inj hj).symm
          subst ex
          have s67 := s6.trans s7
          have hcs := cset_set n r j
          obtain ⟨t, ht, et⟩ := List.getElem_of_mem (allL_mem hcs)
          have gt : (allL n)[t]? = some (cset n r j) := by rw [List.getElem?_eq_getElem ht, et]
          obtain ⟨c2, cas2, ec2, hc2, hcr2⟩ := (gC.same s67).get gt
          rw [chainL_cset] at hcr2
          have vv : valV (encT (esN n (allL n).length)) ((cset n r j).map Sum.inl) = some (.int (t : Int)) := by
            refine valV_enc (by rw [esN_fst (Nat.le_refl _), List.take_length]; exact allL_nd n) ?_
            refine List.mem_map.mpr ⟨t, List.mem_range.mpr ht, ?_⟩
            rw [List.getD_eq_getElem?_getD, gt]
            rfl
          refine ⟨_, rfl, _, rfl, _, rfl, b, _, rfl, .inl ⟨SqL.of hb, fun T nT => ?_⟩⟩
          have s8 : Same H7 (upd H7 T (.tup ((cset n r j).map V.int))) := same_new nT
          have hT : (upd H7 T (.tup ((cset n r j).map V.int))) T = some (.tup (((cset n r j).map (Sum.inl : Int → Key)).map kV)) := by rw [upd_same, kV_ints]
          generalize upd H7 T (.tup ((cset n r j).map V.int)) = H8 at *
          have gg := DGet.t (s8 _ _ (s67 _ _ g1)) hT
          rw [vv] at gg
          refine ⟨d1, .int (t : Int), rfl, gg, F, _, _, _, rfl, rfl, SqL.of (s8 _ _ (s67 _ _ gF)), atI_nat (j := t) (by rw [List.getElem?_map, ec2]; rfl), _, rfl, dL (chainL n r), dL (chainL n r), dp_L (SqL.of (s8 _ _ hc2)) (hcr2.same s8), dp_L (SqL.of (s8 _ _ (s7 _ _ hc))) ((hcr.same s7).same s8), dL_shaped _, dL_shaped _, _, rfl, ?_⟩
          rw [dL_eqv, decide_eq_true rfl]
          exact iteF ⟨s7.trans s8, _, rfl⟩
        · rintro σ H7 ⟨s7, w, rfl⟩
          exact ⟨s6.trans s7, _, _, _, rfl⟩
      · rintro σ H6 ⟨s6, y, z, w, rfl⟩
        have hp6 := s6 _ _ (s5 _ _ hp)
        have hr6 := (hr0.same s5).same s6
        have h26 := s6 _ _ g2
        refine ⟨_, rfl, d2, _, rfl, h26, _, rfl, p, rfl, ⟨_, SqL.of hp6⟩, fun D nD => ?_⟩
        have pD : p ≠ D := ne_of_none hp6 nD
        refine lc_list (K := K) (a := p) (xs := as.map V.ref) (fun j H' => ∃ bs : List Addr, H' = upd H6 D (.lst (bs.map V.ref)) ∧ Rows H6 bs (((allL n).take j).filter fun r => r.length == n / 2)) ⟨[], rfl, by rw [List.take_zero]; exact .nil⟩ (fun j H' _ ⟨_, e, _⟩ => by rw [e]; exact SqL.of (by rw [upd_ne pD]; exact hp6)) ?_ ?_
        · rintro j x H' hj ⟨bs, rfl, hb⟩
          have jl : j < (allL n).length := by
            have := (List.getElem?_eq_some_iff.mp hj).1
            rw [List.length_map, las] at this
            exact this
          have gj : (allL n)[j]? = some (allL n)[j] := List.getElem?_eq_getElem jl
          generalize (allL n)[j] = t at *
          obtain ⟨b, eb, hb1⟩ := hr6.get gj
          have ex : x = .ref b := by
            rw [List.getElem?_map, eb] at hj
            exact (Option.some.inj hj).symm
          subst ex
          have bD : b ≠ D := ne_of_none hb1 nD
          refine ⟨rfl, ?_⟩
          refine ⟨_, rfl, b, _, rfl, .inl (SqL.of (by rw [upd_ne bD]; exact hb1)), _, rfl, _, _, rfl, rfl, ⟨by decide, by decide⟩, rfl, _, rfl, ?_⟩
          have eb2 : decide (V.int ((t.map V.int).length : Int) = V.int ((n : Int) / 2)) = (t.length == n / 2) := by
            rw [List.length_map, e2]
            by_cases z : t.length = n / 2
            · rw [z, decide_eq_true rfl]
              simp
            · rw [decide_eq_false fun y => z (by have := V.int.inj y; omega)]
              simp [z]
          rw [eb2, take_snoc gj, List.filter_append, List.filter_cons]
          cases hc : (t.length == n / 2) with
          | false =>
            refine iteF ⟨bs, rfl, ?_⟩
            rw [if_neg (by decide), List.filter_nil, List.append_nil]
            exact hb
          | true =>
            have lb := hb.len
            have lf := List.length_filter_le (fun r : List Int => r.length == n / 2) ((allL n).take j)
            rw [List.length_take] at lf
            refine iteT ⟨_, rfl, _, upd_same, sz_lt (by rw [List.length_map]; omega), bs ++ [b], ?_, ?_⟩
            · rw [upd_upd, List.map_append]
              rfl
            · rw [if_pos rfl, List.filter_nil]
              exact Rows.snoc hb hb1
        · rintro H' ⟨bs, rfl, hb⟩
          rw [List.length_map, las, List.take_length] at hb
          have hb : Rows H6 bs (halfL n (n / 2)) := hb
          have lb := hb.len
          rw [halfL_len] at lb
          refine ⟨D, _, rfl, .inl (SqL.of upd_same), rfl, ?_⟩
          rw [decide_eq_true (show V.int (((encT ((ded ((allL n).map fun r => cset n r 0)).map fun k => (k, V.bl true))).length : Nat) : Int) = V.int ((bs.map V.ref).length : Int) by
            unfold encT
            rw [List.length_map, List.length_map, List.length_map, ded_len, lb])]
          exact q _
end
/-! ### what the top has written; the end -/
theorem all_mk {l : PySem.W.OpenLaw} {w : World} {K : PySem.W.Frag} {h : Heap} {mg : Str → Option Value} {fa f0 f1 f2 f3 f4 f5 f6 f7 C_NoMany C_NoSet : Addr} {tM : Tok}
    {od0 an0 od1 an1 od2 an2 od3 an3 od4 an4 od5 an5 od6 an6 od7 an7 : Option Addr} {sl0 sl1 sl2 sl3 sl4 sl5 sl6 sl7 : Array (Option Value)} {oc0 kV0 dc0 pm0 cd0 ct0 oc1 kV1 dc1 pm1 cd1 ct1 oc2 kV2 dc2 pm2 cd2 ct2 oc3 kV3 dc3 pm3 cd3 ct3 oc4 kV4 dc4 pm4 cd4 ct4 oc5 kV5 dc5 pm5 cd5 ct5 oc6 kV6 dc6 pm6 cd6 ct6 oc7 kV7 dc7 pm7 cd7 ct7 : Value}
    (X : K.In h) (G : h.Ns mainGlobals mg) (hfa : mg "law" = some (.ref fa))
    (xn0 : PySem.W.nsIn K mainGlobals "NoMany" = some (some (.ref C_NoMany)))
    (xx0 : PySem.W.excIn K C_NoMany [.type "ValueError", .type "Exception", .type "BaseException", .type "object"] "ValueError.__new__" = true)
    (xk0 : PySem.W.keepIn K (.ref C_NoMany) = true)
    (xb0 : PySem.W.subIn K (.ref C_NoMany) (.type "BaseException") = some true)
    (xt0 : PySem.W.typeIn K (.ref C_NoMany) = some (.type "type"))
    (xn1 : PySem.W.nsIn K mainGlobals "NoSet" = some (some (.ref C_NoSet)))
    (xx1 : PySem.W.excIn K C_NoSet [.type "ValueError", .type "Exception", .type "BaseException", .type "object"] "ValueError.__new__" = true)
    (xk1 : PySem.W.keepIn K (.ref C_NoSet) = true)
    (xb1 : PySem.W.subIn K (.ref C_NoSet) (.type "BaseException") = some true)
    (xt1 : PySem.W.typeIn K (.ref C_NoSet) = some (.type "type"))
    (a0 : PySem.W.nsIn K mainGlobals "asked_many" = some (some (.ref f0)))
    (l0 : K.lookup f0 = some ⟨oc0, od0, .func (PySem.W.fnOf "asked_many" "asked_many" (defArgs s_asked_many) (defBody s_asked_many) (defScope s_asked_many) .none kV0 dc0 pm0 an0 cd0 ct0), sl0⟩)
    (c0 : PySem.W.codeIn K cd0 "asked_many" = true)
    (k0 : PySem.W.keepIn K (.ref f0) = true)
    (a1 : PySem.W.nsIn K mainGlobals "asked_set" = some (some (.ref f1)))
    (l1 : K.lookup f1 = some ⟨oc1, od1, .func (PySem.W.fnOf "asked_set" "asked_set" (defArgs s_asked_set) (defBody s_asked_set) (defScope s_asked_set) .none kV1 dc1 pm1 an1 cd1 ct1), sl1⟩)
    (c1 : PySem.W.codeIn K cd1 "asked_set" = true)
    (k1 : PySem.W.keepIn K (.ref f1) = true)
    (a2 : PySem.W.nsIn K mainGlobals "parted" = some (some (.ref f2)))
    (l2 : K.lookup f2 = some ⟨oc2, od2, .func (PySem.W.fnOf "parted" "parted" (defArgs s_parted) (defBody s_parted) (defScope s_parted) .none kV2 dc2 pm2 an2 cd2 ct2), sl2⟩)
    (c2 : PySem.W.codeIn K cd2 "parted" = true)
    (k2 : PySem.W.keepIn K (.ref f2) = true)
    (a3 : PySem.W.nsIn K mainGlobals "loose" = some (some (.ref f3)))
    (l3 : K.lookup f3 = some ⟨oc3, od3, .func (PySem.W.fnOf "loose" "loose" (defArgs s_loose) (defBody s_loose) (defScope s_loose) .none kV3 dc3 pm3 an3 cd3 ct3), sl3⟩)
    (c3 : PySem.W.codeIn K cd3 "loose" = true)
    (k3 : PySem.W.keepIn K (.ref f3) = true)
    (a4 : PySem.W.nsIn K mainGlobals "chain" = some (some (.ref f4)))
    (l4 : K.lookup f4 = some ⟨oc4, od4, .func (PySem.W.fnOf "chain" "chain" (defArgs s_chain) (defBody s_chain) (defScope s_chain) .none kV4 dc4 pm4 an4 cd4 ct4), sl4⟩)
    (c4 : PySem.W.codeIn K cd4 "chain" = true)
    (k4 : PySem.W.keepIn K (.ref f4) = true)
    (a5 : PySem.W.nsIn K mainGlobals "_law_cell_at" = some (some (.ref f5)))
    (l5 : K.lookup f5 = some ⟨oc5, od5, .func (PySem.W.fnOf "_law_cell_at" "_law_cell_at" (defArgs s__law_cell_at) (defBody s__law_cell_at) (defScope s__law_cell_at) .none kV5 dc5 pm5 an5 cd5 ct5), sl5⟩)
    (c5 : PySem.W.codeIn K cd5 "_law_cell_at" = true)
    (k5 : PySem.W.keepIn K (.ref f5) = true)
    (a6 : PySem.W.nsIn K mainGlobals "_law_all_sets" = some (some (.ref f6)))
    (l6 : K.lookup f6 = some ⟨oc6, od6, .func (PySem.W.fnOf "_law_all_sets" "_law_all_sets" (defArgs s__law_all_sets) (defBody s__law_all_sets) (defScope s__law_all_sets) .none kV6 dc6 pm6 an6 cd6 ct6), sl6⟩)
    (c6 : PySem.W.codeIn K cd6 "_law_all_sets" = true)
    (k6 : PySem.W.keepIn K (.ref f6) = true)
    (a7 : PySem.W.nsIn K mainGlobals "law" = some (some (.ref f7)))
    (l7 : K.lookup f7 = some ⟨oc7, od7, .func (PySem.W.fnOf "law" "law" (defArgs s_law) (defBody s_law) (defScope s_law) .none kV7 dc7 pm7 an7 cd7 ct7), sl7⟩)
    (c7 : PySem.W.codeIn K cd7 "law" = true)
    (k7 : PySem.W.keepIn K (.ref f7) = true)
    (zlen : PySem.W.nsIn K mainGlobals "len" = some none)
    (zrange : PySem.W.nsIn K mainGlobals "range" = some none)
    (zsorted : PySem.W.nsIn K mainGlobals "sorted" = some none)
    (zisinstance : PySem.W.nsIn K mainGlobals "isinstance" = some none)
    (zint : PySem.W.nsIn K mainGlobals "int" = some none)
    (zbool : PySem.W.nsIn K mainGlobals "bool" = some none)
    (zlist : PySem.W.nsIn K mainGlobals "list" = some none)
    (ztuple : PySem.W.nsIn K mainGlobals "tuple" = some none)
    (zstr : PySem.W.nsIn K mainGlobals "str" = some none)
    (zsum : PySem.W.nsIn K mainGlobals "sum" = some none)
    (zall : PySem.W.nsIn K mainGlobals "all" = some none)
    (zmin : PySem.W.nsIn K mainGlobals "min" = some none)
    (zmax : PySem.W.nsIn K mainGlobals "max" = some none)
    (zValueError : PySem.W.nsIn K mainGlobals "ValueError" = some none)
    (zMOST : PySem.W.nsIn K mainGlobals "MOST" = some (some (.int 40 tM))) :
    ∃ fd : FuncData, (∀ (s : Shared) (v : Value), BindsTo s fd ⟨[v], []⟩ [("script", v)]) ∧ ∀ base : Heap, K.In base → base.Ns mainGlobals mg → FnOk l.prog w K mg base CX0 4 fa fd ["script"] (spLaw K) := by
  have e := hfa.symm.trans (PySem.W.mg_of X G a7)
  cases e
  have B : Bt mg tM := ⟨PySem.W.mg_none_of X G zlen, PySem.W.mg_none_of X G zrange, PySem.W.mg_none_of X G zsorted, PySem.W.mg_none_of X G zisinstance, PySem.W.mg_none_of X G zint, PySem.W.mg_none_of X G zbool, PySem.W.mg_none_of X G zlist, PySem.W.mg_none_of X G ztuple, PySem.W.mg_none_of X G zstr, PySem.W.mg_none_of X G zsum, PySem.W.mg_none_of X G zall, PySem.W.mg_none_of X G zmin, PySem.W.mg_none_of X G zmax, PySem.W.mg_none_of X G zValueError, PySem.W.mg_of X G zMOST⟩
  have X_NoMany : XT K mg "NoMany" C_NoMany := ⟨PySem.W.mg_of X G xn0, xx0, xk0, xb0, xt0⟩
  have X_NoSet : XT K mg "NoSet" C_NoSet := ⟨PySem.W.mg_of X G xn1, xx1, xk1, xb1, xt1⟩
  have A_asked_many : At K mg "asked_many" s_asked_many := ⟨f0, _, fun_mk (st := s_asked_many) l0 c0 k0, PySem.W.mg_of X G a0⟩
  have A_asked_set : At K mg "asked_set" s_asked_set := ⟨f1, _, fun_mk (st := s_asked_set) l1 c1 k1, PySem.W.mg_of X G a1⟩
  have A_parted : At K mg "parted" s_parted := ⟨f2, _, fun_mk (st := s_parted) l2 c2 k2, PySem.W.mg_of X G a2⟩
  have A_loose : At K mg "loose" s_loose := ⟨f3, _, fun_mk (st := s_loose) l3 c3 k3, PySem.W.mg_of X G a3⟩
  have A_chain : At K mg "chain" s_chain := ⟨f4, _, fun_mk (st := s_chain) l4 c4 k4, PySem.W.mg_of X G a4⟩
  have A__law_cell_at : At K mg "_law_cell_at" s__law_cell_at := ⟨f5, _, fun_mk (st := s__law_cell_at) l5 c5 k5, PySem.W.mg_of X G a5⟩
  have A__law_all_sets : At K mg "_law_all_sets" s__law_all_sets := ⟨f6, _, fun_mk (st := s__law_all_sets) l6 c6 k6, PySem.W.mg_of X G a6⟩
  refine ⟨PySem.W.fnOf "law" "law" (defArgs s_law) (defBody s_law) (defScope s_law) .none kV7 dc7 pm7 an7 cd7 ct7, fun s v => .of_eq rfl, fun base _ _ => ?_⟩
  have D_asked_many := ok_asked_many (P := l.prog) (w := w) (base := base) A_asked_many B X_NoMany
  have D_asked_set := ok_asked_set (P := l.prog) (w := w) (base := base) A_asked_set B X_NoSet
  have D_parted := ok_parted (P := l.prog) (w := w) (base := base) A_parted B
  have D_loose := ok_loose (P := l.prog) (w := w) (base := base) A_loose B D_asked_many D_asked_set D_parted
  have D_chain := ok_chain (P := l.prog) (w := w) (base := base) A_chain B D_loose
  have D__law_cell_at := ok__law_cell_at (P := l.prog) (w := w) (base := base) A__law_cell_at B
  have D__law_all_sets := ok__law_all_sets (P := l.prog) (w := w) (base := base) A__law_all_sets B
  exact ok_law (fun_mk (st := s_law) l7 c7 k7) B D__law_all_sets D__law_cell_at D_chain
end SC
open PySem PySem.W PyProof.Rows
set_option maxHeartbeats 0 in
theorem PySem.Challenge.cw_setchains_k05_whole_one_chain_holds : PySem.Challenge.rw_setchains_k05_whole_one_chain.Holds := by
  w_on; o_law; k_head; (case hw => w_witness2)
  k_fill
  refine L2.walk_of (l := PySem.Challenge.rw_setchains_k05_whole_one_chain) (n := 63) (k := 4) (x := "script") (CX := fun _ => L2.CX0) (sp := fun w => SC.spLaw _) rfl (by decide) rfl ⟨rfl, by decide, by decide⟩ (fun w h Y => PySem.W.kIn_of Y) ?F (fun _ _ a ns hl _ hS => ⟨a, ns, rfl, hS, hl, fun _ => rfl⟩) (fun _ _ _ _ _ h => h)
  case F =>
    intro w mg fa h KX G hmg
    refine' SC.all_mk KX G hmg ?xn0 ?xx0 ?xk0 ?xb0 ?xt0 ?xn1 ?xx1 ?xk1 ?xb1 ?xt1 ?a0 ?l0 ?c0 ?k0 ?a1 ?l1 ?c1 ?k1 ?a2 ?l2 ?c2 ?k2 ?a3 ?l3 ?c3 ?k3 ?a4 ?l4 ?c4 ?k4 ?a5 ?l5 ?c5 ?k5 ?a6 ?l6 ?c6 ?k6 ?a7 ?l7 ?c7 ?k7 ?zlen ?zrange ?zsorted ?zisinstance ?zint ?zbool ?zlist ?ztuple ?zstr ?zsum ?zall ?zmin ?zmax ?zValueError ?zMOST
    (case xn0 => k_is)
    (case xx0 => k_exc)
    (case xk0 => k_is)
    (case xb0 => k_is)
    (case xt0 => k_is)
    (case xn1 => k_is)
    (case xx1 => k_exc)
    (case xk1 => k_is)
    (case xb1 => k_is)
    (case xt1 => k_is)
    (case a0 => k_is)
    (case l0 => k_is)
    (case c0 => k_is)
    (case k0 => k_is)
    (case a1 => k_is)
    (case l1 => k_is)
    (case c1 => k_is)
    (case k1 => k_is)
    (case a2 => k_is)
    (case l2 => k_is)
    (case c2 => k_is)
    (case k2 => k_is)
    (case a3 => k_is)
    (case l3 => k_is)
    (case c3 => k_is)
    (case k3 => k_is)
    (case a4 => k_is)
    (case l4 => k_is)
    (case c4 => k_is)
    (case k4 => k_is)
    (case a5 => k_is)
    (case l5 => k_is)
    (case c5 => k_is)
    (case k5 => k_is)
    (case a6 => k_is)
    (case l6 => k_is)
    (case c6 => k_is)
    (case k6 => k_is)
    (case a7 => k_is)
    (case l7 => k_is)
    (case c7 => k_is)
    (case k7 => k_is)
    (case zlen => k_is)
    (case zrange => k_is)
    (case zsorted => k_is)
    (case zisinstance => k_is)
    (case zint => k_is)
    (case zbool => k_is)
    (case zlist => k_is)
    (case ztuple => k_is)
    (case zstr => k_is)
    (case zsum => k_is)
    (case zall => k_is)
    (case zmin => k_is)
    (case zmax => k_is)
    (case zValueError => k_is)
    (case zMOST => k_is)
