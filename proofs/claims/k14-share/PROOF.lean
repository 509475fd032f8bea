import PyProof.Rows.All
import Wide.All
import OpenK.AllK
import Wide.FinOn
import HandS.ForMost
import HandS.ForExc
import HandS.IsInst
import HandS.Deep
import HandS.SortInts
import HandS.SortRule
import HandS.Wide
import HandS.Evl
import PySem.Challenge.RW_setchains_k14_share
set_option Elab.async false
set_option linter.all false
set_option maxRecDepth 100000
set_option maxHeartbeats 4000000
set_option linter.all false
namespace SC
/-! ### lists -/
/-- rising -/
abbrev Up (l : List Int) : Prop := l.Pairwise (· < ·)
def irange (n : Nat) : List Int := (List.range n).map fun i : Nat => (i : Int)
theorem irange_succ (n : Nat) : irange (n + 1) = irange n ++ [(n : Int)] := by
  unfold irange
  rw [List.range_succ, List.map_append]
  rfl
theorem irange_len (n : Nat) : (irange n).length = n := by simp [irange]
theorem mem_irange {n : Nat} {x : Int} : x ∈ irange n ↔ 0 ≤ x ∧ x < n := by
  unfold irange
  rw [List.mem_map]
  constructor
  · rintro ⟨i, hi, rfl⟩
    have := List.mem_range.mp hi
    omega
  · intro h
    exact ⟨x.toNat, List.mem_range.mpr (by omega), by omega⟩
theorem irange_up (n : Nat) : Up (irange n) := by
  induction n with
  | zero => exact List.Pairwise.nil
  | succ n ih =>
    rw [irange_succ]
    refine List.pairwise_append.mpr ⟨ih, List.pairwise_singleton _ _, fun a ha b hb => ?_⟩
    have := mem_irange.mp ha
    rw [List.mem_singleton] at hb
    omega
theorem irange_get {n i : Nat} (h : i < n) : (irange n)[i]? = some (i : Int) := by
  unfold irange
  rw [List.getElem?_map, List.getElem?_range h]
  rfl
theorem up_nodup {l : List Int} (h : Up l) : l.Nodup := h.imp fun h e => by omega
/-- rising lists of the same members are one -/
theorem up_ext : ∀ {l m : List Int}, Up l → Up m → (∀ x, x ∈ l ↔ x ∈ m) → l = m
  | [], [], _, _, _ => rfl
  | [], y :: m, _, _, h => absurd ((h y).mpr (List.mem_cons_self ..)) (by simp)
  | x :: l, [], _, _, h => absurd ((h x).mp (List.mem_cons_self ..)) (by simp)
  | x :: l, y :: m, hl, hm, h => by
    obtain ⟨hx, hl'⟩ := List.pairwise_cons.mp hl
    obtain ⟨hy, hm'⟩ := List.pairwise_cons.mp hm
    have e : x = y := by
      rcases List.mem_cons.mp ((h x).mp (List.mem_cons_self ..)) with e | e
      · exact e
      · rcases List.mem_cons.mp ((h y).mpr (List.mem_cons_self ..)) with q | q
        · exact q.symm
        · have := hx y q
          have := hy x e
          omega
    subst e
    have e2 : l = m := up_ext hl' hm' fun z => by
      constructor
      · intro hz
        rcases List.mem_cons.mp ((h z).mp (List.mem_cons_of_mem _ hz)) with q | q
        · have := hx z hz
          omega
        · exact q
      · intro hz
        rcases List.mem_cons.mp ((h z).mpr (List.mem_cons_of_mem _ hz)) with q | q
        · have := hy z hz
          omega
        · exact q
    rw [e2]
theorem up_filter {l : List Int} (h : Up l) (p : Int → Bool) : Up (l.filter p) := h.filter p
theorem up_take {l : List Int} (h : Up l) (j : Nat) : Up (l.take j) := h.sublist (List.take_sublist j l)
theorem up_drop {l : List Int} (h : Up l) (j : Nat) : Up (l.drop j) := h.sublist (List.drop_sublist j l)
/-- a set of so many things -/
structure IsSet (n : Nat) (ms : List Int) : Prop where
  up : Up ms
  lo : ∀ x ∈ ms, 0 ≤ x
  hi : ∀ x ∈ ms, x < n
theorem IsSet.eq {n : Nat} {ms : List Int} (h : IsSet n ms) : (irange n).filter (fun x => decide (x ∈ ms)) = ms := by
  refine up_ext (up_filter (irange_up n) _) h.up fun x => ?_
  rw [List.mem_filter, mem_irange]
  constructor
  · rintro ⟨_, q⟩
    exact of_decide_eq_true q
  · intro q
    exact ⟨⟨h.lo x q, h.hi x q⟩, decide_eq_true q⟩
theorem isSet_of {n : Nat} (p : Int → Bool) : IsSet n ((irange n).filter p) where
  up := up_filter (irange_up n) p
  lo := fun x h => (mem_irange.mp (List.mem_filter.mp h).1).1
  hi := fun x h => (mem_irange.mp (List.mem_filter.mp h).1).2
theorem IsSet.len {n : Nat} {ms : List Int} (h : IsSet n ms) : ms.length ≤ n := by
  have e := congrArg List.length h.eq
  have l := List.length_filter_le (fun x => decide (x ∈ ms)) (irange n)
  rw [irange_len] at l
  omega
theorem isSet_nil (n : Nat) : IsSet n [] := ⟨List.Pairwise.nil, (fun _ h => nomatch h), (fun _ h => nomatch h)⟩

/-! ### sorting -/
def insB {α : Type} (le : α → α → Bool) (x : α) : List α → List α
  | [] => [x]
  | y :: r => if le x y then x :: y :: r else y :: insB le x r
def sortB {α : Type} (le : α → α → Bool) : List α → List α
  | [] => []
  | x :: r => insB le x (sortB le r)
theorem insB_perm {α : Type} (le : α → α → Bool) (x : α) : ∀ l : List α, (insB le x l).Perm (x :: l)
  | [] => List.Perm.refl _
  | y :: r => by
    unfold insB
    split
    · exact List.Perm.refl _
    · exact ((insB_perm le x r).cons y).trans (List.Perm.swap x y r)
theorem sortB_perm {α : Type} (le : α → α → Bool) : ∀ l : List α, (sortB le l).Perm l
  | [] => List.Perm.refl _
  | x :: r => (insB_perm le x _).trans ((sortB_perm le r).cons x)
theorem insB_pw {α : Type} {le : α → α → Bool} (tot : ∀ a b, le a b = true ∨ le b a = true) (tr : ∀ a b c, le a b = true → le b c = true → le a c = true) (x : α) :
    ∀ l : List α, l.Pairwise (fun a b => le a b = true) → (insB le x l).Pairwise (fun a b => le a b = true)
  | [], _ => List.pairwise_singleton _ _
  | y :: r, h => by
    obtain ⟨h1, h2⟩ := List.pairwise_cons.mp h
    unfold insB
    split
    · rename_i hle
      refine List.pairwise_cons.mpr ⟨fun z hz => ?_, h⟩
      rcases List.mem_cons.mp hz with e | hz
      · rw [e]; exact hle
      · exact tr _ _ _ hle (h1 z hz)
    · rename_i hle
      refine List.pairwise_cons.mpr ⟨fun z hz => ?_, insB_pw tot tr x r h2⟩
      rcases List.mem_cons.mp ((insB_perm le x r).mem_iff.mp hz) with e | hz
      · rw [e]
        rcases tot x y with q | q
        · exact absurd q hle
        · exact q
      · exact h1 z hz
theorem sortB_pw {α : Type} {le : α → α → Bool} (tot : ∀ a b, le a b = true ∨ le b a = true) (tr : ∀ a b c, le a b = true → le b c = true → le a c = true) :
    ∀ l : List α, (sortB le l).Pairwise (fun a b => le a b = true)
  | [] => List.Pairwise.nil
  | x :: r => insB_pw tot tr x _ (sortB_pw tot tr r)
/-- sorted rearrangements are one -/
theorem pw_uniq {α : Type} {le : α → α → Bool} : ∀ {l m : List α}, (∀ a ∈ l, ∀ b ∈ l, le a b = true → le b a = true → a = b) → l.Pairwise (fun a b => le a b = true) → m.Pairwise (fun a b => le a b = true) → l.Perm m → l = m
  | [], m, _, _, _, p => (List.Perm.eq_nil p.symm).symm
  | x :: l, [], _, _, _, p => absurd p.length_eq (by simp)
  | x :: l, y :: m, an, hl, hm, p => by
    obtain ⟨hx, hl'⟩ := List.pairwise_cons.mp hl
    obtain ⟨hy, hm'⟩ := List.pairwise_cons.mp hm
    have e : x = y := by
      rcases List.mem_cons.mp (p.mem_iff.mp (List.mem_cons_self (a := x) (l := l))) with q | q
      · exact q
      · rcases List.mem_cons.mp (p.mem_iff.mpr (List.mem_cons_self (a := y) (l := m))) with r | r
        · exact r.symm
        · exact an x (List.mem_cons_self ..) y (List.mem_cons_of_mem _ r) (hx y r) (hy x q)
    subst e
    rw [pw_uniq (fun a ha b hb => an a (List.mem_cons_of_mem _ ha) b (List.mem_cons_of_mem _ hb)) hl' hm' p.cons_inv]
def leI (a b : Int) : Bool := decide (a ≤ b)
abbrev isort (l : List Int) : List Int := sortB leI l
theorem isort_pw (l : List Int) : (isort l).Pairwise (· ≤ ·) := by
  have h := sortB_pw (le := leI) (fun a b => by unfold leI; simp only [decide_eq_true_eq]; omega) (fun a b c => by unfold leI; simp only [decide_eq_true_eq]; omega) l
  exact h.imp fun {a b} h => of_decide_eq_true h
theorem isort_uniq {l m : List Int} (hl : l.Pairwise (· ≤ ·)) (p : l.Perm m) : l = isort m := by
  refine pw_uniq (le := leI) (fun a _ b _ h1 h2 => ?_) (hl.imp fun h => decide_eq_true h) ?_ (p.trans (sortB_perm leI m).symm)
  · have := of_decide_eq_true h1
    have := of_decide_eq_true h2
    omega
  · exact (isort_pw m).imp fun h => decide_eq_true h
theorem isort_mem {l : List Int} {x : Int} : x ∈ isort l ↔ x ∈ l := (sortB_perm leI l).mem_iff
theorem isort_len (l : List Int) : (isort l).length = l.length := (sortB_perm leI l).length_eq
theorem isort_up {l : List Int} (h : l.Nodup) : Up (isort l) := by
  have n : (isort l).Nodup := (sortB_perm leI l).nodup_iff.mpr h
  have p := isort_pw l
  generalize isort l = k at n p
  induction k with
  | nil => exact List.Pairwise.nil
  | cons x r ih =>
    obtain ⟨p1, p2⟩ := List.pairwise_cons.mp p
    obtain ⟨n1, n2⟩ := List.nodup_cons.mp n
    refine List.pairwise_cons.mpr ⟨fun y hy => ?_, ih n2 p2⟩
    have := p1 y hy
    have ne : x ≠ y := fun e => n1 (e ▸ hy)
    omega
/-- pairs by their first, then their second -/
def leP (a b : Int × Int) : Bool := decide (a.1 < b.1 ∨ a.1 = b.1 ∧ a.2 ≤ b.2)
abbrev psort (l : List (Int × Int)) : List (Int × Int) := sortB leP l
theorem psort_uniq {l m : List (Int × Int)} (hl : l.Pairwise (fun a b => leP a b = true)) (p : l.Perm m) : l = psort m := by
  refine pw_uniq (le := leP) (fun a _ b _ h1 h2 => ?_) hl ?_ (p.trans (sortB_perm leP m).symm)
  · have h1 := of_decide_eq_true h1
    have h2 := of_decide_eq_true h2
    obtain ⟨a1, a2⟩ := a
    obtain ⟨b1, b2⟩ := b
    simp only at h1 h2
    have e1 : a1 = b1 := by omega
    have e2 : a2 = b2 := by omega
    rw [e1, e2]
  · refine sortB_pw (fun a b => ?_) (fun a b c h1 h2 => ?_) m
    · unfold leP
      simp only [decide_eq_true_eq]
      omega
    · unfold leP at *
      simp only [decide_eq_true_eq] at *
      omega
theorem psort_mem {l : List (Int × Int)} {x : Int × Int} : x ∈ psort l ↔ x ∈ l := (sortB_perm leP l).mem_iff
theorem psort_len (l : List (Int × Int)) : (psort l).length = l.length := (sortB_perm leP l).length_eq
/-! ### the program's own look at a set -/
def setOk (m : Int) : Int → List Int → Bool
  | _, [] => true
  | b, x :: r => if x ≤ b ∨ m ≤ x then false else setOk m x r
theorem setOk_iff {m : Int} : ∀ {b : Int} {l : List Int}, setOk m b l = true ↔ Up l ∧ (∀ x ∈ l, b < x) ∧ ∀ x ∈ l, x < m
  | b, [] => by simp [setOk]
  | b, x :: r => by
    unfold setOk
    split
    · rename_i h
      constructor
      · intro z; cases z
      · rintro ⟨h1, h2, h3⟩
        have := h2 x (List.mem_cons_self ..)
        have := h3 x (List.mem_cons_self ..)
        omega
    · rename_i h
      rw [setOk_iff (b := x) (l := r)]
      constructor
      · rintro ⟨h1, h2, h3⟩
        refine ⟨List.pairwise_cons.mpr ⟨h2, h1⟩, fun y hy => ?_, fun y hy => ?_⟩
        · rcases List.mem_cons.mp hy with e | e
          · omega
          · have := h2 y e
            omega
        · rcases List.mem_cons.mp hy with e | e
          · omega
          · exact h3 y e
      · rintro ⟨h1, h2, h3⟩
        obtain ⟨h4, h5⟩ := List.pairwise_cons.mp h1
        exact ⟨h5, h4, fun y hy => h3 y (List.mem_cons_of_mem _ hy)⟩
theorem setOk_set {n : Nat} {ms : List Int} : setOk n (-1) ms = true ↔ IsSet n ms := by
  rw [setOk_iff]
  constructor
  · rintro ⟨h1, h2, h3⟩
    exact ⟨h1, fun x hx => by have := h2 x hx; omega, h3⟩
  · intro h
    exact ⟨h.up, fun x hx => by have := h.lo x hx; omega, h.hi⟩
end SC
namespace SC
/-! ### how many ways -/
/-- Pascal's numbers -/
def ch : Nat → Nat → Nat
  | _, 0 => 1
  | 0, _ + 1 => 0
  | n + 1, k + 1 => ch n k + ch n (k + 1)
theorem ch_zero (n : Nat) : ch n 0 = 1 := by cases n <;> rfl
theorem ch_gt : ∀ {n k : Nat}, n < k → ch n k = 0
  | 0, k + 1, _ => rfl
  | n + 1, k + 1, h => by
    show ch n k + ch n (k + 1) = 0
    rw [ch_gt (show n < k by omega), ch_gt (show n < k + 1 by omega)]
theorem ch_self : ∀ n : Nat, ch n n = 1
  | 0 => rfl
  | n + 1 => by
    show ch n n + ch n (n + 1) = 1
    rw [ch_self n, ch_gt (by omega)]
theorem ch_le : ∀ n k : Nat, ch n k ≤ 2 ^ n
  | n, 0 => by
    rw [ch_zero]
    exact Nat.one_le_two_pow
  | 0, k + 1 => by
    show 0 ≤ _
    omega
  | n + 1, k + 1 => by
    show ch n k + ch n (k + 1) ≤ 2 ^ (n + 1)
    have h1 := ch_le n k
    have h2 := ch_le n (k + 1)
    rw [Nat.pow_succ]
    omega
theorem ch_pos : ∀ {n k : Nat}, k ≤ n → 0 < ch n k
  | n, 0, _ => by
    rw [ch_zero]
    omega
  | n + 1, k + 1, h => by
    show 0 < ch n k + ch n (k + 1)
    have := ch_pos (show k ≤ n by omega)
    omega
/-- the next number of a row -/
theorem ch_next : ∀ n k : Nat, k ≤ n → ch n k * (n - k) = ch n (k + 1) * (k + 1)
  | 0, k, h => by
    have e : k = 0 := by omega
    subst e
    rfl
  | n + 1, 0, _ => by
    have h0 := ch_next n 0 (by omega)
    show 1 * (n + 1 - 0) = (ch n 0 + ch n 1) * 1
    rw [ch_zero] at h0 ⊢
    simp only [Nat.sub_zero, Nat.one_mul, Nat.zero_add, Nat.mul_one] at h0 ⊢
    omega
  | n + 1, k + 1, h => by
    show (ch n k + ch n (k + 1)) * (n + 1 - (k + 1)) = (ch n (k + 1) + ch n (k + 2)) * (k + 1 + 1)
    by_cases hk : k = n
    · subst hk
      rw [ch_self, ch_gt (show k < k + 1 by omega), ch_gt (show k < k + 2 by omega)]
      simp
    · have h1 := ch_next n k (by omega)
      have h2 := ch_next n (k + 1) (by omega)
      obtain ⟨d, hd⟩ : ∃ d, n = k + 1 + d := ⟨n - (k + 1), by omega⟩
      have e1 : n - k = d + 1 := by omega
      have e2 : n - (k + 1) = d := by omega
      have e3 : n + 1 - (k + 1) = d + 1 := by omega
      rw [e1] at h1
      rw [e2] at h2
      rw [e3]
      generalize ch n k = a at *
      generalize ch n (k + 1) = b at *
      generalize ch n (k + 2) = c at *
      have q1 : a * (d + 1) = b * (k + 1) := h1
      have q2 : b * d = c * (k + 1 + 1) := h2
      rw [Nat.add_mul, q1, Nat.add_mul, ← q2]
      have : b * (d + 1) = b * d + b := by rw [Nat.mul_add, Nat.mul_one]
      have : b * (k + 1 + 1) = b * (k + 1) + b := by rw [Nat.mul_add, Nat.mul_one]
      omega
theorem ch_div {n k : Nat} (h : k ≤ n) : ((ch n k : Int) * ((n : Int) - (k : Int))) / ((k : Int) + 1) = (ch n (k + 1) : Int) := by
  have e := ch_next n k h
  have e1 : ((n : Int) - (k : Int)) = ((n - k : Nat) : Int) := by omega
  have e2 : ((k : Int) + 1) = ((k + 1 : Nat) : Int) := by omega
  rw [e1, e2, ← Int.natCast_mul, ← Int.natCast_ediv, e, Nat.mul_div_cancel _ (by omega)]
/-- picks(total, some) -/
def picks (t s : Int) : Int := if s < 0 ∨ t < s then 0 else ch t.toNat s.toNat
theorem picks_nat (n k : Nat) : picks n k = ch n k := by
  unfold picks
  split
  · rename_i h
    rw [ch_gt (by omega)]
    rfl
  · rfl
/-- a row of Pascal's -/
def prow (k : Nat) : List Int := (List.range (k + 1)).map fun j => (ch k j : Int)
theorem prow_len (k : Nat) : (prow k).length = k + 1 := by simp [prow]
theorem prow_get {k j : Nat} (h : j ≤ k) : (prow k)[j]? = some (ch k j : Int) := by
  unfold prow
  rw [List.getElem?_map, List.getElem?_range (by omega)]
  rfl
theorem prow_next (k : Nat) : prow (k + 1) = [(1 : Int)] ++ (List.range k).map (fun j => (ch k j : Int) + (ch k (j + 1) : Int)) ++ [1] := by
  unfold prow
  rw [List.range_succ, List.map_append, List.range_succ_eq_map, List.map_cons, List.map_map]
  have e : ((fun j => (ch (k + 1) j : Int)) ∘ Nat.succ) = fun j => (ch k j : Int) + (ch k (j + 1) : Int) := by
    funext j
    show ((ch k j + ch k (j + 1) : Nat) : Int) = _
    omega
  rw [e, ch_zero]
  have e2 : (List.map (fun j => (ch (k + 1) j : Int)) [k + 1]) = [1] := by
    show [(ch (k + 1) (k + 1) : Int)] = [1]
    rw [ch_self]
    rfl
  rw [e2]
  rfl
end SC
namespace SC
/-! ### the machine of pairs: things gone through from nought on -/
structure S3 where
  prs : List (Int × Int)
  aln : List Int
  wt : List Int
/-- one thing: a member closes the last that waits, if any; another one waits -/
def stp (b : Bool) (t : Int) (s : S3) : S3 :=
  if b then
    match s.wt.getLast? with
    | some w => ⟨s.prs ++ [(w, t)], s.aln, s.wt.dropLast⟩
    | none => ⟨s.prs, s.aln ++ [t], s.wt⟩
  else ⟨s.prs, s.aln, s.wt ++ [t]⟩
def st (f : Int → Bool) : Nat → S3
  | 0 => ⟨[], [], []⟩
  | i + 1 => stp (f i) i (st f i)
theorem stp_no (t : Int) (s : S3) : stp false t s = ⟨s.prs, s.aln, s.wt ++ [t]⟩ := rfl
theorem stp_alone {t : Int} {s : S3} (h : s.wt = []) : stp true t s = ⟨s.prs, s.aln ++ [t], []⟩ := by
  unfold stp
  rw [h]
  rfl
theorem stp_pop {t w : Int} {s : S3} {r : List Int} (h : s.wt = r ++ [w]) : stp true t s = ⟨s.prs ++ [(w, t)], s.aln, r⟩ := by
  unfold stp
  rw [h]
  simp
theorem snoc_cases {α : Type} (l : List α) : l = [] ∨ ∃ r w, l = r ++ [w] := by
  cases e : l.getLast? with
  | none => exact .inl (List.getLast?_eq_none_iff.mp e)
  | some w =>
    refine .inr ⟨l.dropLast, w, ?_⟩
    have hn : l ≠ [] := fun z => by rw [z] at e; cases e
    have e2 := List.getLast?_eq_some_getLast hn
    rw [e] at e2
    rw [Option.some.inj e2]
    exact (List.dropLast_concat_getLast hn).symm
theorem st_congr {f g : Int → Bool} : ∀ {n : Nat}, (∀ i : Nat, i < n → f i = g i) → st f n = st g n
  | 0, _ => rfl
  | n + 1, h => by
    show stp (f n) n (st f n) = stp (g n) n (st g n)
    rw [h n (by omega), st_congr fun i hi => h i (by omega)]
def firsts (p : List (Int × Int)) : List Int := p.map (·.1)
def seconds (p : List (Int × Int)) : List Int := p.map (·.2)
theorem firsts_snoc (p : List (Int × Int)) (x : Int × Int) : firsts (p ++ [x]) = firsts p ++ [x.1] := by simp [firsts]
theorem seconds_snoc (p : List (Int × Int)) (x : Int × Int) : seconds (p ++ [x]) = seconds p ++ [x.2] := by simp [seconds]

/-- what holds behind i things -/
structure Ok (f : Int → Bool) (i : Nat) (s : S3) : Prop where
  wt : s.wt = (irange i).filter fun x => !f x && !(firsts s.prs).contains x
  aln : s.aln = (irange i).filter fun x => f x && !(seconds s.prs).contains x
  fst : ∀ p ∈ s.prs, 0 ≤ p.1 ∧ p.1 < p.2 ∧ p.2 < i ∧ f p.1 = false ∧ f p.2 = true
  nd1 : (firsts s.prs).Nodup
  nd2 : Up (seconds s.prs)
  sep : ∀ x ∈ s.aln, ∀ y ∈ s.wt, x < y
  sum : 2 * s.prs.length + s.aln.length + s.wt.length = i
theorem mem_firsts {p : List (Int × Int)} {x : Int} : x ∈ firsts p ↔ ∃ y, (x, y) ∈ p := by
  unfold firsts
  rw [List.mem_map]
  constructor
  · rintro ⟨⟨a, b⟩, h, rfl⟩
    exact ⟨b, h⟩
  · rintro ⟨y, h⟩
    exact ⟨(x, y), h, rfl⟩
theorem mem_seconds {p : List (Int × Int)} {x : Int} : x ∈ seconds p ↔ ∃ y, (y, x) ∈ p := by
  unfold seconds
  rw [List.mem_map]
  constructor
  · rintro ⟨⟨a, b⟩, h, rfl⟩
    exact ⟨a, h⟩
  · rintro ⟨y, h⟩
    exact ⟨(y, x), h, rfl⟩
theorem filter_congr' {α : Type} {p q : α → Bool} {l : List α} (h : ∀ x ∈ l, p x = q x) : l.filter p = l.filter q := List.filter_congr h
theorem up_last {r : List Int} {w : Int} (h : Up (r ++ [w])) : (∀ x ∈ r, x < w) ∧ Up r := by
  obtain ⟨h1, _, h3⟩ := List.pairwise_append.mp h
  exact ⟨fun x hx => h3 x hx w (List.mem_singleton.mpr rfl), h1⟩
theorem filter_ne_last {r : List Int} {w : Int} (h : Up (r ++ [w])) : (r ++ [w]).filter (fun x => x != w) = r := by
  obtain ⟨h1, _⟩ := up_last h
  rw [List.filter_append]
  have e1 : r.filter (fun x => x != w) = r := List.filter_eq_self.mpr fun x hx => by
    have := h1 x hx
    simp
    omega
  rw [e1]
  simp
theorem ok_st (f : Int → Bool) : ∀ i : Nat, Ok f i (st f i)
  | 0 => ⟨rfl, rfl, (fun p h => nomatch h), List.nodup_nil, List.Pairwise.nil, (fun x h => nomatch h), rfl⟩
  | i + 1 => by
    have o := ok_st f i
    show Ok f (i + 1) (stp (f i) i (st f i))
    generalize st f i = s at o
    obtain ⟨P, A, W⟩ := s
    obtain ⟨hW, hA, hF, n1, n2, sp, sm⟩ := o
    dsimp only at *
    have mi : ∀ x ∈ irange i, x ≠ (i : Int) := fun x hx e => by
      have := mem_irange.mp hx
      omega
    have bF : (firsts P).contains (i : Int) = false := by
      cases e : (firsts P).contains (i : Int) with
      | false => rfl
      | true =>
        obtain ⟨y, hy⟩ := mem_firsts.mp (List.contains_iff_mem.mp e)
        have := hF _ hy
        dsimp only at this
        omega
    have bS : (seconds P).contains (i : Int) = false := by
      cases e : (seconds P).contains (i : Int) with
      | false => rfl
      | true =>
        obtain ⟨y, hy⟩ := mem_seconds.mp (List.contains_iff_mem.mp e)
        have := hF _ hy
        dsimp only at this
        omega
    have upW : Up W := by
      rw [hW]
      exact up_filter (irange_up i) _
    have memW : ∀ x ∈ W, 0 ≤ x ∧ x < i ∧ f x = false ∧ x ∉ firsts P := fun x hx => by
      rw [hW] at hx
      obtain ⟨h1, h2⟩ := List.mem_filter.mp hx
      rw [Bool.and_eq_true, Bool.not_eq_true', Bool.not_eq_true'] at h2
      have := mem_irange.mp h1
      refine ⟨this.1, this.2, h2.1, fun z => ?_⟩
      have := List.contains_iff_mem.mpr z
      rw [h2.2] at this
      cases this
    have memA : ∀ x ∈ A, x < i := fun x hx => by
      rw [hA] at hx
      exact (mem_irange.mp (List.mem_filter.mp hx).1).2
    cases hf : f i with
    | false =>
      rw [stp_no]
      refine ⟨?_, ?_, fun p hp => ?_, n1, n2, fun x hx y hy => ?_, ?_⟩
      · dsimp only
        rw [irange_succ, List.filter_append, ← hW]
        congr 1
        rw [List.filter_cons, if_pos (by rw [hf, bF]; rfl)]
        rfl
      · dsimp only
        rw [irange_succ, List.filter_append, ← hA]
        rw [List.filter_cons, if_neg (by rw [hf]; simp)]
        simp
      · have := hF p hp
        exact ⟨this.1, this.2.1, by omega, this.2.2.2⟩
      · dsimp only at hx hy
        rcases List.mem_append.mp hy with hy | hy
        · exact sp x hx y hy
        · rw [List.mem_singleton] at hy
          have := memA x hx
          omega
      · dsimp only
        rw [List.length_append, List.length_singleton]
        omega
    | true =>
      rcases snoc_cases W with e | ⟨r, w, e⟩
      · subst e
        rw [stp_alone rfl]
        refine ⟨?_, ?_, fun p hp => ?_, n1, n2, fun x hx y hy => (nomatch hy), ?_⟩
        · dsimp only
          rw [irange_succ, List.filter_append, ← hW]
          rw [List.filter_cons, if_neg (by rw [hf]; simp)]
          rfl
        · dsimp only
          rw [irange_succ, List.filter_append, ← hA]
          congr 1
          rw [List.filter_cons, if_pos (by rw [hf, bS]; rfl)]
          rfl
        · have := hF p hp
          exact ⟨this.1, this.2.1, by omega, this.2.2.2⟩
        · dsimp only at sm ⊢
          rw [List.length_append, List.length_singleton]
          simp only [List.length_nil] at sm ⊢
          omega
      · subst e
        rw [stp_pop rfl]
        have hw := memW w (List.mem_append_right _ (List.mem_singleton.mpr rfl))
        refine ⟨?_, ?_, fun p hp => ?_, ?_, ?_, fun x hx y hy => sp x hx y (List.mem_append_left _ hy), ?_⟩
        · dsimp only
          rw [irange_succ, List.filter_append, firsts_snoc]
          rw [List.filter_cons, if_neg (by rw [hf]; simp), List.filter_nil, List.append_nil]
          have e1 : (irange i).filter (fun x => !f x && !(firsts P ++ [w]).contains x) = ((irange i).filter (fun x => !f x && !(firsts P).contains x)).filter (fun x => x != w) := by
            rw [List.filter_filter]
            refine List.filter_congr fun x hx => ?_
            simp only [List.contains_append, List.contains_cons, List.contains_nil, Bool.or_false]
            show _ = (!(x == w) && (!f x && !(firsts P).contains x))
            generalize f x = a
            generalize (firsts P).contains x = b
            generalize (x == w) = c
            cases a <;> cases b <;> cases c <;> rfl
          rw [e1, ← hW]
          exact (filter_ne_last upW).symm
        · dsimp only
          rw [irange_succ, List.filter_append, seconds_snoc]
          rw [List.filter_cons, if_neg (by simp [List.contains_append]), List.filter_nil, List.append_nil]
          rw [hA]
          refine List.filter_congr fun x hx => ?_
          have nx := mi x hx
          simp only [List.contains_append, List.contains_cons, List.contains_nil, Bool.or_false]
          have : (x == (i : Int)) = false := by simpa using nx
          rw [this, Bool.or_false]
        · dsimp only at hp
          rcases List.mem_append.mp hp with hp | hp
          · have := hF p hp
            exact ⟨this.1, this.2.1, by omega, this.2.2.2⟩
          · rw [List.mem_singleton] at hp
            subst hp
            exact ⟨hw.1, hw.2.1, by dsimp only; omega, hw.2.2.1, hf⟩
        · dsimp only
          rw [firsts_snoc]
          refine List.nodup_append.mpr ⟨n1, by simp, fun a ha b hb e => ?_⟩
          rw [List.mem_singleton] at hb
          subst hb
          exact hw.2.2.2 (e ▸ ha)
        · dsimp only
          rw [seconds_snoc]
          refine List.pairwise_append.mpr ⟨n2, List.pairwise_singleton _ _, fun a ha b hb => ?_⟩
          rw [List.mem_singleton] at hb
          obtain ⟨y, hy⟩ := mem_seconds.mp ha
          have := hF _ hy
          dsimp only at this hb
          omega
        · dsimp only at sm ⊢
          rw [List.length_append, List.length_singleton] at *
          omega
end SC
namespace SC
/-! ### the clash of a family -/
def subL (xs ys : List Int) : Bool := xs.all fun x => ys.contains x
def hit (rows : List (List Int)) (k j : Nat) : Bool := (k != j) && subL (rows.getD k []) (rows.getD j [])
def NoHit (rows : List (List Int)) : Prop := ∀ k j, k < rows.length → j < rows.length → hit rows k j = false
structure First (rows : List (List Int)) (k j : Nat) : Prop where
  hk : k < rows.length
  hj : j < rows.length
  hit : hit rows k j = true
  less : ∀ k' j', k' < k → j' < rows.length → SC.hit rows k' j' = false
  lessj : ∀ j', j' < j → SC.hit rows k j' = false
theorem First.uniq {rows : List (List Int)} {k j k' j' : Nat} (a : First rows k j) (b : First rows k' j') : k = k' ∧ j = j' := by
  have hk : k = k' := by
    rcases Nat.lt_trichotomy k k' with h | h | h
    · have := b.less k j h a.hj
      rw [a.hit] at this
      cases this
    · exact h
    · have := a.less k' j' h b.hj
      rw [b.hit] at this
      cases this
  subst hk
  refine ⟨rfl, ?_⟩
  rcases Nat.lt_trichotomy j j' with h | h | h
  · have := b.lessj j h
    rw [a.hit] at this
    cases this
  · exact h
  · have := a.lessj j' h
    rw [b.hit] at this
    cases this
theorem First.no {rows : List (List Int)} {k j : Nat} (a : First rows k j) (h : NoHit rows) : False := by
  have := h k j a.hk a.hj
  rw [a.hit] at this
  cases this
theorem hit_of {rows : List (List Int)} {k j : Nat} {r t : List Int} (h1 : rows[k]? = some r) (h2 : rows[j]? = some t) : hit rows k j = ((k != j) && subL r t) := by
  unfold hit
  rw [List.getD_eq_getElem?_getD, List.getD_eq_getElem?_getD, h1, h2]
  rfl
theorem subL_iff {xs ys : List Int} : subL xs ys = true ↔ ∀ x ∈ xs, x ∈ ys := by
  unfold subL
  rw [List.all_eq_true]
  constructor
  · intro h x hx
    exact List.contains_iff_mem.mp (h x hx)
  · intro h x hx
    exact List.contains_iff_mem.mpr (h x hx)
end SC
namespace SC
/-! ### the shares of a family without a clash -/
def fac : Nat → Nat
  | 0 => 1
  | n + 1 => (n + 1) * fac n
theorem fac_pos : ∀ n, 0 < fac n
  | 0 => by decide
  | n + 1 => Nat.mul_pos (by omega) (fac_pos n)
theorem ch_fac : ∀ n k : Nat, k ≤ n → ch n k * (fac k * fac (n - k)) = fac n
  | n, 0, _ => by
    rw [ch_zero]
    show 1 * (1 * fac (n - 0)) = fac n
    rw [Nat.one_mul, Nat.one_mul]
    rfl
  | 0, k + 1, h => absurd h (by omega)
  | n + 1, k + 1, h => by
    have e : n + 1 - (k + 1) = n - k := by omega
    rw [e]
    show (ch n k + ch n (k + 1)) * ((k + 1) * fac k * fac (n - k)) = (n + 1) * fac n
    have h1 := ch_fac n k (by omega)
    have a1 : ch n k * ((k + 1) * fac k * fac (n - k)) = (k + 1) * fac n := by
      rw [← h1]
      simp only [Nat.mul_assoc, Nat.mul_left_comm]
    by_cases hk : k = n
    · subst hk
      rw [ch_gt (show k < k + 1 by omega), Nat.add_zero, a1]
    · obtain ⟨d, hd⟩ : ∃ d, n - k = d + 1 := ⟨n - k - 1, by omega⟩
      have h2 := ch_fac n (k + 1) (by omega)
      have e3 : n - (k + 1) = d := by omega
      rw [e3] at h2
      have a2 : ch n (k + 1) * ((k + 1) * fac k * fac (n - k)) = (n - k) * fac n := by
        rw [hd, ← h2]
        show ch n (k + 1) * ((k + 1) * fac k * ((d + 1) * fac d)) = (d + 1) * (ch n (k + 1) * ((k + 1) * fac k * fac d))
        simp only [Nat.mul_assoc, Nat.mul_left_comm]
      rw [Nat.add_mul, a1, a2, ← Nat.add_mul]
      congr 1
      omega
/-- what one set weighs: so many ways go through it -/
def wgt (n : Nat) (A : List Int) : Nat := fac A.length * fac (n - A.length)
theorem sum_filter {α : Type} (f : α → Nat) (p : α → Bool) : ∀ F : List α, ((F.filter p).map f).sum = (F.map fun A => if p A = true then f A else 0).sum
  | [] => rfl
  | A :: F => by
    rw [List.filter_cons, List.map_cons, List.sum_cons, ← sum_filter f p F]
    split
    · rw [List.map_cons, List.sum_cons]
    · rw [Nat.zero_add]
theorem sum_add {α : Type} (f g : α → Nat) : ∀ F : List α, (F.map fun A => f A + g A).sum = (F.map f).sum + (F.map g).sum
  | [] => rfl
  | A :: F => by
    rw [List.map_cons, List.map_cons, List.map_cons, List.sum_cons, List.sum_cons, List.sum_cons, sum_add f g F]
    omega
theorem sum_congr {α : Type} {f g : α → Nat} : ∀ {F : List α}, (∀ A ∈ F, f A = g A) → (F.map f).sum = (F.map g).sum
  | [], _ => rfl
  | A :: F, h => by
    rw [List.map_cons, List.map_cons, List.sum_cons, List.sum_cons, h A (List.mem_cons_self ..), sum_congr fun B hB => h B (List.mem_cons_of_mem _ hB)]
theorem sum_le {α : Type} {f : α → Nat} {c : Nat} : ∀ {F : List α}, (∀ A ∈ F, f A ≤ c) → (F.map f).sum ≤ F.length * c
  | [], _ => by simp
  | A :: F, h => by
    rw [List.map_cons, List.sum_cons, List.length_cons, Nat.add_mul, Nat.one_mul]
    have := h A (List.mem_cons_self ..)
    have := sum_le fun B hB => h B (List.mem_cons_of_mem _ hB)
    omega
/-- counted by sets, or by the things that are not in them -/
theorem double (f : List Int → Nat) (F : List (List Int)) : ∀ S : List Int, (S.map fun x => ((F.filter fun A => !A.contains x).map f).sum).sum = (F.map fun A => f A * (S.filter fun x => !A.contains x).length).sum
  | [] => by
    have : (F.map fun A => f A * (([] : List Int).filter fun x => !A.contains x).length).sum = (F.map fun _ => 0).sum := sum_congr fun A _ => rfl
    rw [this]
    induction F with
    | nil => rfl
    | cons A F ih => rw [List.map_cons, List.sum_cons, Nat.zero_add]; exact ih (sum_congr fun A _ => rfl)
  | x :: S => by
    rw [List.map_cons, List.sum_cons, double f F S, sum_filter, ← sum_add]
    refine sum_congr fun A _ => ?_
    rw [List.filter_cons]
    split
    · rw [List.length_cons, Nat.mul_add]
      omega
    · omega
theorem filter_two (p : Int → Bool) : ∀ S : List Int, (S.filter p).length + (S.filter fun x => !p x).length = S.length
  | [] => rfl
  | x :: S => by
    have := filter_two p S
    rw [List.filter_cons, List.filter_cons, List.length_cons]
    cases h : p x with
    | true =>
      rw [if_pos rfl, if_neg (by decide), List.length_cons]
      omega
    | false =>
      rw [if_neg (by decide), if_pos (by rfl), List.length_cons]
      omega
theorem left_out {S A : List Int} (hS : S.Nodup) (hA : A.Nodup) (h : ∀ x ∈ A, x ∈ S) : (S.filter fun x => !A.contains x).length = S.length - A.length := by
  have e := filter_two (fun x => A.contains x) S
  have p : (S.filter fun x => A.contains x).Perm A := by
    refine (List.perm_ext_iff_of_nodup (hS.sublist (List.filter_sublist)) hA).mpr fun x => ?_
    rw [List.mem_filter, List.contains_iff_mem]
    exact ⟨fun z => z.2, fun z => ⟨h x z, z⟩⟩
  have := p.length_eq
  omega
def Apart (A B : List Int) : Prop := (¬ ∀ x ∈ A, x ∈ B) ∧ ¬ ∀ x ∈ B, x ∈ A
theorem sub_all {S A : List Int} (hA : A.Nodup) (h : ∀ x ∈ A, x ∈ S) (hl : S.length ≤ A.length) (hS : S.Nodup) : ∀ x ∈ S, x ∈ A := by
  have e := left_out hS hA h
  have z : (S.filter fun x => !A.contains x) = [] := List.length_eq_zero_iff.mp (by omega)
  intro x hx
  have := (List.filter_eq_nil_iff.mp z) x hx
  simpa using this
theorem lym : ∀ (n : Nat) (S : List Int) (F : List (List Int)), S.length = n → S.Nodup → F.Pairwise Apart → (∀ A ∈ F, A.Nodup ∧ ∀ x ∈ A, x ∈ S) → (F.map (wgt n)).sum ≤ fac n
  | n, S, [], _, _, _, _ => Nat.zero_le _
  | 0, S, [A], hS, _, _, h => by
    have e : S = [] := List.length_eq_zero_iff.mp hS
    subst e
    have hA : A = [] := List.eq_nil_iff_forall_not_mem.mpr fun x hx => nomatch (h A (List.mem_cons_self ..)).2 x hx
    subst hA
    decide
  | 0, S, A :: B :: F, hS, _, hp, h => by
    have e : S = [] := List.length_eq_zero_iff.mp hS
    subst e
    have := ((List.pairwise_cons.mp hp).1 B (List.mem_cons_self ..)).1
    exact absurd (fun x hx => nomatch (h A (List.mem_cons_self ..)).2 x hx) this
  | n + 1, S, F, hS, nd, hp, h => by
    by_cases full : ∃ A ∈ F, n + 1 ≤ A.length
    · obtain ⟨A, hA, hl⟩ := full
      have cov := sub_all (h A hA).1 (h A hA).2 (by omega) nd
      have one : F = [A] := by
        obtain ⟨P, R, e⟩ := List.append_of_mem hA
        subst e
        obtain ⟨_, h2, h3⟩ := List.pairwise_append.mp hp
        have hP : P = [] := List.eq_nil_iff_forall_not_mem.mpr fun B hB => by
          have := (h3 B hB A (List.mem_cons_self ..)).1
          exact this fun x hx => cov x ((h B (List.mem_append_left _ hB)).2 x hx)
        have hR : R = [] := List.eq_nil_iff_forall_not_mem.mpr fun B hB => by
          have := ((List.pairwise_cons.mp h2).1 B hB).2
          exact this fun x hx => cov x ((h B (List.mem_append_right _ (List.mem_cons_of_mem _ hB))).2 x hx)
        rw [hP, hR]
        rfl
      have le : A.length ≤ n + 1 := by
        have := left_out nd (h A hA).1 (h A hA).2
        have f := filter_two (fun x => A.contains x) S
        have p : (S.filter fun x => A.contains x).Perm A := by
          refine (List.perm_ext_iff_of_nodup (nd.sublist (List.filter_sublist)) (h A hA).1).mpr fun x => ?_
          rw [List.mem_filter, List.contains_iff_mem]
          exact ⟨fun z => z.2, fun z => ⟨(h A hA).2 x z, z⟩⟩
        have := p.length_eq
        omega
      rw [one]
      show wgt (n + 1) A + 0 ≤ _
      unfold wgt
      rw [show A.length = n + 1 by omega, Nat.sub_self]
      show fac (n + 1) * 1 + 0 ≤ _
      omega
    · have hlt : ∀ A ∈ F, A.length ≤ n := fun A hA => by
        by_cases z : A.length ≤ n
        · exact z
        · exact absurd ⟨A, hA, by omega⟩ full
      have e1 : (F.map (wgt (n + 1))).sum = (F.map fun A => wgt n A * (S.filter fun x => !A.contains x).length).sum := sum_congr fun A hA => by
        rw [left_out nd (h A hA).1 (h A hA).2, hS]
        unfold wgt
        obtain ⟨d, hd⟩ : ∃ d, n - A.length = d := ⟨_, rfl⟩
        have := hlt A hA
        rw [show n + 1 - A.length = d + 1 by omega, hd]
        show fac A.length * ((d + 1) * fac d) = fac A.length * fac d * (d + 1)
        simp only [Nat.mul_assoc, Nat.mul_comm]
      rw [e1, ← double]
      have := sum_le (F := S) (f := fun x => ((F.filter fun A => !A.contains x).map (wgt n)).sum) (c := fac n) fun x hx => by
        refine lym n (S.erase x) _ ?_ (nd.erase x) (hp.sublist List.filter_sublist) fun A hA => ?_
        · rw [List.length_erase_of_mem hx]
          omega
        · obtain ⟨hA1, hA2⟩ := List.mem_filter.mp hA
          have nx : x ∉ A := by simpa using hA2
          refine ⟨(h A hA1).1, fun y hy => ?_⟩
          have ne : y ≠ x := fun e => nx (e ▸ hy)
          exact (List.mem_erase_of_ne ne).mpr ((h A hA1).2 y hy)
      rw [hS] at this
      exact this
/-! ### the sum of the shares -/
/-- the two numbers -/
def sh (n : Nat) (F : List (List Int)) : Nat × Nat := F.foldl (fun p A => (p.1 * ch n A.length + p.2, p.2 * ch n A.length)) (0, 1)
theorem sh_snoc (n : Nat) (F : List (List Int)) (A : List Int) : sh n (F ++ [A]) = ((sh n F).1 * ch n A.length + (sh n F).2, (sh n F).2 * ch n A.length) := by
  unfold sh
  rw [List.foldl_append]
  rfl
theorem snoc_rec {α : Type} {P : List α → Prop} (h0 : P []) (hs : ∀ l x, P l → P (l ++ [x])) : ∀ l : List α, P l := fun l => by
  have : ∀ m : Nat, ∀ l : List α, l.length = m → P l := by
    intro m
    induction m with
    | zero =>
      intro l hl
      rw [List.length_eq_zero_iff.mp hl]
      exact h0
    | succ m ih =>
      intro l hl
      rcases snoc_cases l with z | ⟨r, w, z⟩
      · subst z
        cases hl
      · subst z
        rw [List.length_append, List.length_singleton] at hl
        exact hs r w (ih r (by omega))
  exact this l.length l rfl
theorem sh_pos {n : Nat} : ∀ F : List (List Int), (∀ A ∈ F, A.length ≤ n) → 0 < (sh n F).2 := by
  refine snoc_rec (fun _ => Nat.one_pos) (fun l A ih h => ?_)
  rw [sh_snoc]
  exact Nat.mul_pos (ih fun B hB => h B (List.mem_append_left _ hB)) (ch_pos (h A (List.mem_append_right _ (List.mem_singleton.mpr rfl))))
theorem sh_sum {n : Nat} : ∀ F : List (List Int), (∀ A ∈ F, A.length ≤ n) → (sh n F).1 * fac n = (sh n F).2 * (F.map (wgt n)).sum := by
  refine snoc_rec (fun _ => by show 0 * _ = 1 * 0; omega) (fun l A ih h => ?_)
  have ih := ih fun B hB => h B (List.mem_append_left _ hB)
  have hA := ch_fac n A.length (h A (List.mem_append_right _ (List.mem_singleton.mpr rfl)))
  rw [sh_snoc, List.map_append, List.sum_append]
  show ((sh n l).1 * ch n A.length + (sh n l).2) * fac n = (sh n l).2 * ch n A.length * (_ + (wgt n A + 0))
  rw [Nat.add_zero, Nat.add_mul, Nat.mul_add]
  have e1 : (sh n l).1 * ch n A.length * fac n = (sh n l).2 * ch n A.length * (l.map (wgt n)).sum := by
    rw [Nat.mul_right_comm, ih]
    simp only [Nat.mul_assoc, Nat.mul_comm]
  have e2 : (sh n l).2 * ch n A.length * wgt n A = (sh n l).2 * fac n := by
    rw [Nat.mul_assoc]
    unfold wgt
    rw [hA]
  rw [e1, e2]
theorem sh_bound {n b : Nat} (hb : ∀ k, ch n k ≤ b) (b1 : 1 ≤ b) : ∀ F : List (List Int), (sh n F).2 ≤ b ^ F.length ∧ (sh n F).1 ≤ F.length * b ^ F.length := by
  refine snoc_rec ⟨Nat.le_refl 1, Nat.zero_le _⟩ (fun l A ih => ?_)
  rw [sh_snoc, List.length_append, List.length_singleton, Nat.pow_succ]
  dsimp only
  have hc := hb A.length
  have hp : 0 < b ^ l.length := Nat.pow_pos (by omega)
  have g1 := Nat.mul_le_mul ih.1 hc
  have g2 := Nat.mul_le_mul ih.2 hc
  refine ⟨g1, ?_⟩
  have g3 : b ^ l.length ≤ b ^ l.length * b := Nat.le_mul_of_pos_right _ (by omega)
  rw [Nat.add_mul, Nat.one_mul, ← Nat.mul_assoc]
  omega
theorem share_le {n : Nat} {F : List (List Int)} (h : ∀ A ∈ F, IsSet n A) (hp : F.Pairwise Apart) : (sh n F).1 ≤ (sh n F).2 := by
  have hl : ∀ A ∈ F, A.length ≤ n := fun A hA => (h A hA).len
  have e := sh_sum F hl
  have l := lym n (irange n) F (irange_len n) (up_nodup (irange_up n)) hp fun A hA => ⟨up_nodup (h A hA).up, fun x hx => mem_irange.mpr ⟨(h A hA).lo x hx, (h A hA).hi x hx⟩⟩
  have := Nat.mul_le_mul_left (sh n F).2 l
  rw [← e] at this
  exact Nat.le_of_mul_le_mul_right this (fac_pos n)
theorem nohit_apart {rows : List (List Int)} (h : NoHit rows) : rows.Pairwise Apart := by
  refine List.pairwise_iff_getElem.mpr fun i j hi hj lt => ?_
  have f := h i j hi hj
  have g := h j i hj hi
  have e1 : rows[i]? = some rows[i] := List.getElem?_eq_getElem hi
  have e2 : rows[j]? = some rows[j] := List.getElem?_eq_getElem hj
  rw [hit_of e1 e2] at f
  rw [hit_of e2 e1] at g
  rw [show (i != j) = true by simp; omega, Bool.true_and] at f
  rw [show (j != i) = true by simp; omega, Bool.true_and] at g
  refine ⟨fun z => ?_, fun z => ?_⟩
  · rw [subL_iff.mpr z] at f
    cases f
  · rw [subL_iff.mpr z] at g
    cases g
end SC
namespace SC
open PySem PySem.Spec PyProof.Rows L2
/-! ### what stands behind the top -/
def At (K : PySem.W.Frag) (mg : Str → Option Value) (x : Str) (st : Stmt) : Prop := ∃ (f : Addr) (fd : FuncData), Fun K x x st f fd ∧ mg x = some (.ref f)
structure Def (P : Program) (w : World) (K : PySem.W.Frag) (mg : Str → Option Value) (base : Heap) (CX : CXT) (k : Nat) (x : Str) (ps : List Str) (sp : Sp) : Prop where
  ex : ∃ (f : Addr) (fd : FuncData), FnOk P w K mg base CX k f fd ps sp ∧ mg x = some (.ref f) ∧ PySem.W.keepIn K (.ref f) = true ∧ Binds K fd ps []
/-- an exception class of the program's own -/
structure XT (K : PySem.W.Frag) (mg : Str → Option Value) (n : Str) (C : Addr) : Prop where
  g : mg n = some (.ref C)
  x : PySem.W.excIn K C [.type "ValueError", .type "Exception", .type "BaseException", .type "object"] "ValueError.__new__" = true
  k : PySem.W.keepIn K (.ref C) = true
  b : PySem.W.subIn K (.ref C) (.type "BaseException") = some true
  t : PySem.W.typeIn K (.ref C) = some (.type "type")
/-- the built-in names, the module's constant -/
structure Bt (mg : Str → Option Value) (tM : Tok) : Prop where
  len : mg "len" = none
  range : mg "range" = none
  sorted : mg "sorted" = none
  isinstance : mg "isinstance" = none
  int : mg "int" = none
  bool : mg "bool" = none
  list : mg "list" = none
  tuple : mg "tuple" = none
  str : mg "str" = none
  sum : mg "sum" = none
  all : mg "all" = none
  min : mg "min" = none
  max : mg "max" = none
  ValueError : mg "ValueError" = none
  MOST : mg "MOST" = some (.int 40 tM)
theorem sz_le {n : Nat} (h : n ≤ 100000) : n ≤ sizeLine := Nat.le_trans h (by decide)
theorem sz_lt {n : Nat} (h : n < 100000) : n < sizeLine := Nat.lt_of_lt_of_le h (by decide)
theorem inD_u {A : Around} {k : Nat} (r : Room k A) : A.units + 65 < cLine := by have := r.un; omega
/-- new: nothing that was tracked is changed -/
theorem same_new {H : Hp} {p : Addr} {o : HO} (h : H p = none) : Same H (upd H p o) := fun b x e => by
  rw [upd_ne (ne_of_none e h)]
  exact e
/-- what was not tracked ahead may change -/
theorem same_mut {H H' : Hp} {p : Addr} {o : HO} (s : Same H H') (h : H p = none) : Same H (upd H' p o) := fun b x e => by
  rw [upd_ne (ne_of_none e h)]
  exact s b x e
theorem tyes {σ : L2.St} {H : Hp} {Q : Bool → Hp → Prop} (h : Q true H) : tYes σ H Q := h
theorem at_int {l : List Int} {i : Nat} {v : Int} (h : l[i]? = some v) : (l.map V.int)[i]? = some (.int v) := by
  rw [List.getElem?_map, h]
  rfl
theorem at_map {l : List Int} {i : Nat} {y : V} (h : (l.map V.int)[i]? = some y) : ∃ v, l[i]? = some v ∧ y = .int v := by
  rw [List.getElem?_map] at h
  cases e : l[i]? with
  | none => rw [e] at h; cases h
  | some v =>
    rw [e] at h
    exact ⟨v, rfl, (Option.some.inj h).symm⟩
theorem atI_int {l : List Int} {z : Int} {i : Nat} {v : Int} (e : z = (i : Int)) (h : l[i]? = some v) : atI (l.map V.int) z = some (.int v) := by
  rw [e]
  exact atI_nat (at_int h)
theorem take_snoc {α : Type} {l : List α} {i : Nat} {x : α} (h : l[i]? = some x) : l.take (i + 1) = l.take i ++ [x] := by
  rw [List.take_add_one, h]
  rfl
/-! ### dicts used as sets of ints -/
def KD (H : Hp) (d : Addr) (l : List Int) : Prop := ∃ kvs : List (Key × V), H d = some (.dK kvs) ∧ kvs.length ≤ l.length ∧ ∀ x : Int, (valV kvs (Sum.inl x)).isSome = l.contains x
theorem KD.nil {H : Hp} {d : Addr} (h : H d = some (.dK [])) : KD H d [] := ⟨[], h, Nat.le_refl _, fun _ => rfl⟩
theorem KD.get {H : Hp} {d : Addr} {l : List Int} (h : KD H d l) (x : Int) : ∃ o, DGet H d (.int x) o ∧ o.isSome = l.contains x := by
  obtain ⟨kvs, h1, _, h3⟩ := h
  exact ⟨_, DGet.k (k := Sum.inl x) h1, h3 x⟩
theorem KD.put {H : Hp} {d : Addr} {l : List Int} (h : KD H d l) (hl : l.length ≤ 1000) (x : Int) (v : V) : ∃ o, DPut H d (.int x) v (upd H d o) ∧ ∀ H' : Hp, H' d = some o → KD H' d (l ++ [x]) := by
  obtain ⟨kvs, h1, h2, h3⟩ := h
  refine ⟨_, DPut.k (k := Sum.inl x) h1 (sz_lt (by omega)), fun H' e => ⟨_, e, ?_, fun y => ?_⟩⟩
  · have := length_putK kvs (Sum.inl x) v
    rw [List.length_append, List.length_singleton]
    omega
  · rw [valV_put, List.contains_append]
    by_cases e : y = x
    · subst e
      rw [if_pos rfl]
      simp
    · rw [if_neg (fun z => e (Sum.inl.inj z)), h3]
      simp [e]
theorem KD.same {H H' : Hp} {d : Addr} {l : List Int} (h : KD H d l) (s : Same H H') : KD H' d l := by
  obtain ⟨kvs, h1, h2⟩ := h
  exact ⟨kvs, s _ _ h1, h2⟩
theorem KD.at {H H' : Hp} {d : Addr} {l : List Int} (h : KD H d l) (e : H' d = H d) : KD H' d l := by
  obtain ⟨kvs, h1, h2⟩ := h
  exact ⟨kvs, e.trans h1, h2⟩
theorem KD.ne {H : Hp} {d : Addr} {l : List Int} (h : KD H d l) {p : Addr} (n : H p = none) : d ≠ p := by
  obtain ⟨kvs, h1, _⟩ := h
  exact ne_of_none h1 n
/-! ### x in a list of ints -/
theorem flat_ints : ∀ ns : List Int, (ns.map V.int).all flatV = true
  | [] => rfl
  | n :: r => by rw [List.map_cons, List.all_cons, flat_ints r]; rfl
theorem inV_ints (x : Int) : ∀ ns : List Int, inV (.int x) (ns.map V.int) = ns.contains x
  | [] => rfl
  | n :: r => by
    have ih := inV_ints x r
    unfold inV at *
    rw [List.map_cons, List.any_cons, ih, List.contains_cons]
    congr 1
    show (n == x) = (x == n)
    by_cases h : x = n
    · subst h
      rfl
    · rw [beq_eq_false_iff_ne.mpr h, beq_eq_false_iff_ne.mpr (fun z => h z.symm)]
/-! ### lists of pairs -/
/-- the tuples at ts hold the pairs ps -/
def Tups (H : Hp) (ts : List Addr) (ps : List (Int × Int)) : Prop := Paired (fun t q => H t = some (.tup [.int q.1, .int q.2])) ts ps
theorem Tups.same {H H' : Hp} {ts : List Addr} {ps : List (Int × Int)} (h : Tups H ts ps) (s : Same H H') : Tups H' ts ps := Paired.mapP h fun _ _ e => s _ _ e
theorem Tups.snoc {H : Hp} {ts : List Addr} {ps : List (Int × Int)} {t : Addr} {q : Int × Int} (h : Tups H ts ps) (e : H t = some (.tup [.int q.1, .int q.2])) : Tups H (ts ++ [t]) (ps ++ [q]) := Paired.snoc h e
/-- what is no tuple may change -/
theorem Tups.upd {H : Hp} {ts : List Addr} {ps : List (Int × Int)} {p : Addr} {xs : List V} {o : HO} (h : Tups H ts ps) (e : H p = some (.lst xs)) : Tups (upd H p o) ts ps :=
  Paired.mapP h fun _ _ q => by rw [upd_ne (ne_of q e (by intro z; cases z))]; exact q
theorem Tups.len {H : Hp} {ts : List Addr} {ps : List (Int × Int)} (h : Tups H ts ps) : ts.length = ps.length := Paired.length h
theorem Tups.get {H : Hp} {ts : List Addr} {ps : List (Int × Int)} (h : Tups H ts ps) {i : Nat} {q : Int × Int} (e : ps[i]? = some q) : ∃ t, ts[i]? = some t ∧ H t = some (.tup [.int q.1, .int q.2]) := by
  have hl := h.len
  have hi : i < ts.length := by
    have := (List.getElem?_eq_some_iff.mp e).1
    omega
  refine ⟨ts[i], List.getElem?_eq_getElem hi, ?_⟩
  obtain ⟨q', e', hq⟩ := paired_get h (List.getElem?_eq_getElem hi)
  rw [e] at e'
  cases e'
  exact hq
/-- which pair lies at a tuple -/
def pairAt (H : Hp) : V → Int × Int
  | .ref t => match H t with
    | some (.tup [.int i, .int j]) => (i, j)
    | _ => (0, 0)
  | _ => (0, 0)
theorem pairAt_of {H : Hp} {t : Addr} {q : Int × Int} (e : H t = some (.tup [.int q.1, .int q.2])) : pairAt H (.ref t) = q := by
  unfold pairAt
  simp only [e]
theorem Tups.map {H : Hp} : ∀ {ts : List Addr} {ps : List (Int × Int)}, Tups H ts ps → (ts.map V.ref).map (pairAt H) = ps
  | _, _, .nil => rfl
  | _, _, .cons h t => by
    rw [List.map_cons, List.map_cons, pairAt_of h, Tups.map t]
theorem Tups.all {H : Hp} : ∀ {ts : List Addr} {ps : List (Int × Int)}, Tups H ts ps → ∀ x ∈ ts.map V.ref, ∃ t, x = V.ref t ∧ H t = some (.tup [.int (pairAt H x).1, .int (pairAt H x).2])
  | _, _, .nil, _, h => nomatch h
  | _, _, .cons h t, x, hx => by
    rw [List.map_cons] at hx
    rcases List.mem_cons.mp hx with e | e
    · subst e
      refine ⟨_, rfl, ?_⟩
      rw [pairAt_of h]
      exact h
    · exact Tups.all t x e
theorem tups_of {H : Hp} : ∀ (xs : List V), (∀ x ∈ xs, ∃ t, x = V.ref t ∧ H t = some (.tup [.int (pairAt H x).1, .int (pairAt H x).2])) → ∃ ts, xs = ts.map V.ref ∧ Tups H ts (xs.map (pairAt H))
  | [], _ => ⟨[], rfl, .nil⟩
  | x :: r, h => by
    obtain ⟨t, e, q⟩ := h x (List.mem_cons_self ..)
    obtain ⟨ts, e2, q2⟩ := tups_of r fun y hy => h y (List.mem_cons_of_mem _ hy)
    subst e
    exact ⟨t :: ts, by rw [e2]; rfl, .cons q q2⟩
/-- sorted of a list of pairs -/
def rSortedQ (K : PySem.W.Frag) : List V → Hp → VK → Prop := fun vs H Q => ∃ (a : Addr) (ts : List Addr) (ps : List (Int × Int)), vs = [V.ref a] ∧ SqL K H a (ts.map V.ref) ∧ Tups H ts ps ∧
  ∀ (p : Addr) (ts' : List Addr), H p = none → Tups H ts' (psort ps) → Q (.ref p) (upd H p (.lst (ts'.map V.ref)))
theorem cr_sortedQ {X : Cx} : CallR X (.builtin "sorted") (rSortedQ X.K) := by
  intro pins s σ H vs us Q I r h
  obtain ⟨a, ts, ps, rfl, hs, ht, q⟩ := h
  refine cr_sortedPO pins s σ H _ us Q I r ⟨a, ts.map V.ref, pairAt H, rfl, hs, ht.all, fun ys p srt stb np => ?_⟩
  have hp := stb.perm
  obtain ⟨ts', e, t'⟩ := tups_of (H := H) ys fun x hx => ht.all x (hp.mem_iff.mp hx)
  have es : ys.map (pairAt H) = psort ps := by
    refine psort_uniq ?_ ?_
    · refine List.pairwise_map.mpr (srt.imp fun {x y} h => ?_)
      have := SrtO.lexB_no.mp h
      unfold leP
      simp only [decide_eq_true_eq]
      omega
    · have := hp.map (pairAt H)
      rw [ht.map] at this
      exact this
  rw [es] at t'
  subst e
  exact q p ts' np t'
/-- sorted of a list of ints -/
def rSortedJ (K : PySem.W.Frag) : List V → Hp → VK → Prop := fun vs H Q => ∃ (a : Addr) (ns : List Int), vs = [V.ref a] ∧ SqL K H a (ns.map V.int) ∧ ∀ p, H p = none → Q (.ref p) (upd H p (.lst ((isort ns).map V.int)))
theorem cr_sortedJ {X : Cx} : CallR X (.builtin "sorted") (rSortedJ X.K) := by
  intro pins s σ H vs us Q I r h
  obtain ⟨a, ns, rfl, hs, q⟩ := h
  refine cr_sortedI pins s σ H _ us Q I r ⟨a, ns, rfl, hs, fun ns' p hp srt np => ?_⟩
  rw [isort_uniq srt hp]
  exact q p np
/-! ### data: lists of ints, pairs, lists of lists -/
def dI (ns : List Int) : PyData := .list (ns.map PyData.int)
def dT (q : Int × Int) : PyData := .tuple [.int q.1, .int q.2]
def dL (rows : List (List Int)) : PyData := .list (rows.map dI)
theorem ints_lay : ∀ ns : List Int, PyData.canLayAll0 (ns.map PyData.int) = true
  | [] => rfl
  | n :: r => by simp [PyData.canLayAll0, PyData.canLay0, ints_lay r]
theorem ints_depth : ∀ ns : List Int, PyData.depthAll (ns.map PyData.int) = 0
  | [] => rfl
  | n :: r => by simp [PyData.depthAll, PyData.depth, ints_depth r]
theorem dI_lay (ns : List Int) : PyData.canLay0 (dI ns) = true := by
  unfold dI
  simp only [PyData.canLay0]
  exact ints_lay ns
theorem dI_depth (ns : List Int) : PyData.depth (dI ns) ≤ 1 := by
  unfold dI
  simp only [PyData.depth]
  rw [ints_depth]
  omega
theorem dI_shaped (ns : List Int) : SeqAt.shaped (dI ns) = true := by
  unfold SeqAt.shaped
  rw [Bool.and_eq_true]
  exact ⟨dI_lay ns, decide_eq_true (Nat.le_trans (dI_depth ns) (by decide))⟩
theorem dT_shaped (q : Int × Int) : SeqAt.shaped (dT q) = true := by
  unfold SeqAt.shaped dT
  rw [Bool.and_eq_true]
  exact ⟨by simp [PyData.canLay0, PyData.canLayAll0], decide_eq_true (by simp [PyData.depth, PyData.depthAll])⟩
theorem dLs_lay : ∀ rs : List (List Int), PyData.canLayAll0 (rs.map dI) = true
  | [] => rfl
  | n :: r => by simp [PyData.canLayAll0, dI_lay n, dLs_lay r]
theorem dLs_depth : ∀ rs : List (List Int), PyData.depthAll (rs.map dI) ≤ 1
  | [] => by simp [PyData.depthAll]
  | n :: r => by
    have h1 := dI_depth n
    have h2 := dLs_depth r
    simp only [List.map_cons, PyData.depthAll]
    omega
theorem dL_shaped (rs : List (List Int)) : SeqAt.shaped (dL rs) = true := by
  unfold SeqAt.shaped dL
  rw [Bool.and_eq_true]
  refine ⟨by simp only [PyData.canLay0]; exact dLs_lay rs, decide_eq_true ?_⟩
  have h := dLs_depth rs
  simp only [PyData.depth]
  omega
theorem ints_eqv : ∀ a b : List Int, PyData.eqvAll (a.map PyData.int) (b.map PyData.int) = decide (a = b)
  | [], [] => by simp [PyData.eqvAll]
  | [], y :: b => by simp [PyData.eqvAll]
  | x :: a, [] => by simp [PyData.eqvAll]
  | x :: a, y :: b => by
    simp only [List.map_cons, PyData.eqvAll, PyData.eqv, ints_eqv a b]
    by_cases h : x = y
    · subst h
      simp
    · simp [h]
theorem dI_eqv (a b : List Int) : PyData.eqv (dI a) (dI b) = decide (a = b) := by
  unfold dI
  simp only [PyData.eqv]
  exact ints_eqv a b
theorem dT_eqv (p q : Int × Int) : PyData.eqv (dT p) (dT q) = decide (p = q) := by
  obtain ⟨a, b⟩ := p
  obtain ⟨c, d⟩ := q
  unfold dT
  simp only [PyData.eqv, PyData.eqvAll]
  by_cases h1 : a = c
  · by_cases h2 : b = d
    · subst h1 h2
      simp
    · simp [h1, h2]
  · simp [h1]
theorem dLs_eqv : ∀ a b : List (List Int), PyData.eqvAll (a.map dI) (b.map dI) = decide (a = b)
  | [], [] => by simp [PyData.eqvAll]
  | [], y :: b => by simp [PyData.eqvAll]
  | x :: a, [] => by simp [PyData.eqvAll]
  | x :: a, y :: b => by
    simp only [List.map_cons, PyData.eqvAll, dI_eqv, dLs_eqv a b]
    by_cases h : x = y
    · subst h
      simp
    · simp [h]
theorem dL_eqv (a b : List (List Int)) : PyData.eqv (dL a) (dL b) = decide (a = b) := by
  unfold dL
  simp only [PyData.eqv]
  exact dLs_eqv a b
def dP (ps : List (Int × Int)) : PyData := .list (ps.map dT)
theorem dTs_lay : ∀ ps : List (Int × Int), PyData.canLayAll0 (ps.map dT) = true
  | [] => rfl
  | n :: r => by simp [PyData.canLayAll0, PyData.canLay0, dT, dTs_lay r]
theorem dTs_depth : ∀ ps : List (Int × Int), PyData.depthAll (ps.map dT) ≤ 1
  | [] => by simp [PyData.depthAll]
  | n :: r => by
    have h2 := dTs_depth r
    have h1 : PyData.depth (dT n) ≤ 1 := by simp [dT, PyData.depth, PyData.depthAll]
    simp only [List.map_cons, PyData.depthAll]
    omega
theorem dP_shaped (ps : List (Int × Int)) : SeqAt.shaped (dP ps) = true := by
  unfold SeqAt.shaped dP
  rw [Bool.and_eq_true]
  refine ⟨by simp only [PyData.canLay0]; exact dTs_lay ps, decide_eq_true ?_⟩
  have h := dTs_depth ps
  simp only [PyData.depth]
  omega
theorem dTs_eqv : ∀ a b : List (Int × Int), PyData.eqvAll (a.map dT) (b.map dT) = decide (a = b)
  | [], [] => by simp [PyData.eqvAll]
  | [], y :: b => by simp [PyData.eqvAll]
  | x :: a, [] => by simp [PyData.eqvAll]
  | x :: a, y :: b => by
    simp only [List.map_cons, PyData.eqvAll, dT_eqv, dTs_eqv a b]
    by_cases h : x = y
    · subst h
      simp
    · simp [h]
theorem dP_eqv (a b : List (Int × Int)) : PyData.eqv (dP a) (dP b) = decide (a = b) := by
  unfold dP
  simp only [PyData.eqv]
  exact dTs_eqv a b
theorem dp_ints {K : PySem.W.Frag} {H : Hp} : ∀ ns : List Int, DpAll K H (ns.map V.int) (ns.map PyData.int)
  | [] => .nil
  | n :: r => .cons (.int n) (dp_ints r)
theorem dp_I {K : PySem.W.Frag} {H : Hp} {a : Addr} {ns : List Int} (h : SqL K H a (ns.map V.int)) : Dp K H (.ref a) (dI ns) := .lst h (dp_ints ns)
theorem dp_T {K : PySem.W.Frag} {H : Hp} {a : Addr} {q : Int × Int} (h : H a = some (.tup [.int q.1, .int q.2])) : Dp K H (.ref a) (dT q) := .tup (SqT.of h) (.cons (.int _) (.cons (.int _) .nil))
theorem dp_Ts {K : PySem.W.Frag} {H : Hp} : ∀ {ts : List Addr} {ps : List (Int × Int)}, Tups H ts ps → DpAll K H (ts.map V.ref) (ps.map dT)
  | _, _, .nil => .nil
  | _, _, .cons h t => .cons (dp_T h) (dp_Ts t)
theorem dp_P {K : PySem.W.Frag} {H : Hp} {a : Addr} {ts : List Addr} {ps : List (Int × Int)} (h : SqL K H a (ts.map V.ref)) (r : Tups H ts ps) : Dp K H (.ref a) (dP ps) := .lst h (dp_Ts r)
/-- the lists at as hold the rows -/
def Rows (H : Hp) (as : List Addr) (rows : List (List Int)) : Prop := Paired (fun a r => H a = some (.lst (r.map V.int))) as rows
theorem Rows.same {H H' : Hp} {as : List Addr} {rs : List (List Int)} (h : Rows H as rs) (s : Same H H') : Rows H' as rs := Paired.mapP h fun _ _ e => s _ _ e
theorem Rows.len {H : Hp} {as : List Addr} {rs : List (List Int)} (h : Rows H as rs) : as.length = rs.length := Paired.length h
theorem Rows.snoc {H : Hp} {as : List Addr} {rs : List (List Int)} {a : Addr} {r : List Int} (h : Rows H as rs) (e : H a = some (.lst (r.map V.int))) : Rows H (as ++ [a]) (rs ++ [r]) := Paired.snoc h e
theorem Rows.get {H : Hp} {as : List Addr} {rs : List (List Int)} (h : Rows H as rs) {i : Nat} {r : List Int} (e : rs[i]? = some r) : ∃ a, as[i]? = some a ∧ H a = some (.lst (r.map V.int)) := by
  have hl := h.len
  have hi : i < as.length := by
    have := (List.getElem?_eq_some_iff.mp e).1
    omega
  refine ⟨as[i], List.getElem?_eq_getElem hi, ?_⟩
  obtain ⟨q', e', hq⟩ := paired_get h (List.getElem?_eq_getElem hi)
  rw [e] at e'
  cases e'
  exact hq
theorem Rows.at {H : Hp} {as : List Addr} {rs : List (List Int)} (h : Rows H as rs) {i : Nat} {a : Addr} (e : as[i]? = some a) : ∃ r, rs[i]? = some r ∧ H a = some (.lst (r.map V.int)) := paired_get h e
theorem Rows.mem {H : Hp} {as : List Addr} {rs : List (List Int)} (h : Rows H as rs) {a : Addr} (e : a ∈ as) : ∃ r, r ∈ rs ∧ H a = some (.lst (r.map V.int)) := by
  obtain ⟨i, hi, rfl⟩ := List.getElem_of_mem e
  obtain ⟨r, h1, h2⟩ := h.at (List.getElem?_eq_getElem hi)
  exact ⟨r, List.mem_of_getElem? h1, h2⟩
/-- a list that is none of the rows may change -/
theorem Rows.upd {H : Hp} {as : List Addr} {rs : List (List Int)} {p : Addr} {o : HO} (h : Rows H as rs) (e : p ∉ as) : Rows (upd H p o) as rs := by
  unfold Rows at *
  induction h with
  | nil => exact .nil
  | cons q t ih =>
    refine .cons ?_ (ih fun z => e (List.mem_cons_of_mem _ z))
    rw [upd_ne (fun z => e (by rw [← z]; exact List.mem_cons_self ..))]
    exact q
theorem Rows.take {H : Hp} {as : List Addr} {rs : List (List Int)} (h : Rows H as rs) (k : Nat) : Rows H (as.take k) (rs.take k) := by
  unfold Rows at *
  induction h generalizing k with
  | nil => rw [List.take_nil, List.take_nil]; exact .nil
  | cons q t ih =>
    cases k with
    | zero => exact .nil
    | succ k => exact .cons q (ih k)
theorem dp_Ls {K : PySem.W.Frag} {H : Hp} : ∀ {as : List Addr} {rs : List (List Int)}, Rows H as rs → DpAll K H (as.map V.ref) (rs.map dI)
  | _, _, .nil => .nil
  | _, _, .cons h t => .cons (dp_I (SqL.of h)) (dp_Ls t)
theorem dp_L {K : PySem.W.Frag} {H : Hp} {a : Addr} {as : List Addr} {rs : List (List Int)} (h : SqL K H a (as.map V.ref)) (r : Rows H as rs) : Dp K H (.ref a) (dL rs) := .lst h (dp_Ls r)
theorem dL_any (rs : List (List Int)) (r : List Int) : ((rs.map dI).any fun z => PyData.eqv z (dI r)) = decide (r ∈ rs) := by
  induction rs with
  | nil => rfl
  | cons x rs ih =>
    rw [List.map_cons, List.any_cons, ih, dI_eqv]
    by_cases h : x = r
    · subst h
      simp
    · by_cases h2 : r ∈ rs
      · simp [h2]
      · simp [h, h2, Ne.symm h]
theorem cut_take (xs : List V) (k : Nat) : cutV xs none (some (k : Int)) = xs.take k := by
  unfold cutV
  rw [HT.sIx_none, HT.sIx_nat, List.drop_zero, Nat.sub_zero]
  by_cases h : k ≤ xs.length
  · rw [Nat.min_eq_left h]
  · rw [Nat.min_eq_right (by omega), List.take_length, List.take_of_length_le (by omega)]
theorem Tups.take {H : Hp} {ts : List Addr} {ps : List (Int × Int)} (h : Tups H ts ps) (k : Nat) : Tups H (ts.take k) (ps.take k) := by
  unfold Tups at *
  induction h generalizing k with
  | nil => rw [List.take_nil, List.take_nil]; exact .nil
  | cons q t ih =>
    cases k with
    | zero => exact .nil
    | succ k => exact .cons q (ih k)
/-! ### what the program's own looks ask -/
def Guard (CM CS : Addr) (m : Int) (ms : List Int) (E : XK) (H : Hp) (good : Prop) : Prop :=
  ((m < 0 ∨ 40 < m) → E (.ref CM) none H) ∧ (¬ (m < 0 ∨ 40 < m) → setOk m (-1) ms = false → E (.ref CS) none H) ∧ (∀ n : Nat, m = (n : Int) → n ≤ 40 → IsSet n ms → good)
theorem Guard.of {CM CS : Addr} {n : Nat} {ms : List Int} {E : XK} {H : Hp} {good : Prop} (hn : n ≤ 40) (h : IsSet n ms) (g : good) : Guard CM CS n ms E H good :=
  ⟨fun z => absurd z (by omega), fun _ z => by rw [setOk_set.mpr h] at z; (cases z), fun _ _ _ _ => g⟩
theorem Guard.imp {CM CS : Addr} {m : Int} {ms : List Int} {E : XK} {H : Hp} {good good' : Prop} (h : Guard CM CS m ms E H good) (g : ∀ n : Nat, m = (n : Int) → n ≤ 40 → IsSet n ms → good → good') : Guard CM CS m ms E H good' :=
  ⟨h.1, h.2.1, fun n e h1 h2 => g n e h1 h2 (h.2.2 n e h1 h2)⟩
/-! ### rules whose reading names the written part (for a comprehension's block) -/
/-! ### the text -/
def topS (i : Nat) : Stmt := PySem.Challenge.pw_setchains_k14_share.main.body.getD i (.Pass ⟨0, 0, 0, 0⟩)
abbrev s_asked_many : Stmt := topS 6
theorem sc_asked_many : FnScope ["many", "most"] ["many", "most"] (defScope s_asked_many) := ⟨rfl, rfl, rfl, by decide +kernel, rfl, by decide +kernel, by decide +kernel⟩
abbrev s_asked_set : Stmt := topS 7
theorem sc_asked_set : FnScope ["many", "members", "before", "thing"] ["many", "members"] (defScope s_asked_set) := ⟨rfl, rfl, rfl, by decide +kernel, rfl, by decide +kernel, by decide +kernel⟩
abbrev s_picks : Stmt := topS 9
theorem sc_picks : FnScope ["total", "some", "ways", "k"] ["total", "some"] (defScope s_picks) := ⟨rfl, rfl, rfl, by decide +kernel, rfl, by decide +kernel, by decide +kernel⟩
abbrev s_asked_family : Stmt := topS 11
theorem sc_asked_family : FnScope ["many", "family", "members", "k"] ["many", "family"] (defScope s_asked_family) := ⟨rfl, rfl, rfl, by decide +kernel, rfl, by decide +kernel, by decide +kernel⟩
abbrev s_common : Stmt := topS 12
theorem sc_common : FnScope ["one", "other"] ["one", "other"] (defScope s_common) := ⟨rfl, rfl, rfl, by decide +kernel, rfl, by decide +kernel, by decide +kernel⟩
abbrev s_share : Stmt := topS 13
theorem sc_share : FnScope ["many", "family", "above", "under", "members", "part", "both"] ["many", "family"] (defScope s_share) := ⟨rfl, rfl, rfl, by decide +kernel, rfl, by decide +kernel, by decide +kernel⟩
abbrev s__law_cell_at : Stmt := topS 15
theorem sc__law_cell_at : FnScope ["script", "k"] ["script", "k"] (defScope s__law_cell_at) := ⟨rfl, rfl, rfl, by decide +kernel, rfl, by decide +kernel, by decide +kernel⟩
abbrev s__law_whole : Stmt := topS 16
theorem sc__law_whole : FnScope ["found"] ["found"] (defScope s__law_whole) := ⟨rfl, rfl, rfl, by decide +kernel, rfl, by decide +kernel, by decide +kernel⟩
abbrev s__law_size_by : Stmt := topS 17
theorem sc__law_size_by : FnScope ["cell"] ["cell"] (defScope s__law_size_by) := ⟨rfl, rfl, rfl, by decide +kernel, rfl, by decide +kernel, by decide +kernel⟩
abbrev s__law_set_by : Stmt := topS 18
theorem sc__law_set_by : FnScope ["script", "at", "size", "one", "two", "found", "thing"] ["script", "at", "size"] (defScope s__law_set_by) := ⟨rfl, rfl, rfl, by decide +kernel, rfl, by decide +kernel, by decide +kernel⟩
abbrev s__law_picked : Stmt := topS 19
theorem sc__law_picked : FnScope ["script", "first", "size", "some", "order", "k", "number"] ["script", "first", "size", "some"] (defScope s__law_picked) := ⟨rfl, rfl, rfl, by decide +kernel, rfl, by decide +kernel, by decide +kernel⟩
abbrev s__law_family_by : Stmt := topS 20
theorem sc__law_family_by : FnScope ["script", "size", "found", "k", "members"] ["script", "size"] (defScope s__law_family_by) := ⟨rfl, rfl, rfl, by decide +kernel, rfl, by decide +kernel, by decide +kernel⟩
abbrev s__law_clash : Stmt := topS 21
theorem sc__law_clash : FnScope ["family", "k", "j", "thing"] ["family"] (defScope s__law_clash) := ⟨rfl, rfl, rfl, by decide +kernel, rfl, by decide +kernel, by decide +kernel⟩
abbrev s__law_picks : Stmt := topS 22
theorem sc__law_picks : FnScope ["total", "some", "row", "k", "j"] ["total", "some"] (defScope s__law_picks) := ⟨rfl, rfl, rfl, by decide +kernel, rfl, by decide +kernel, by decide +kernel⟩
abbrev s__law_common : Stmt := topS 23
theorem sc__law_common : FnScope ["one", "other"] ["one", "other"] (defScope s__law_common) := ⟨rfl, rfl, rfl, by decide +kernel, rfl, by decide +kernel, by decide +kernel⟩
abbrev s_law : Stmt := topS 24
theorem sc_law : FnScope ["script", "size", "family", "over", "under", "members", "part", "handed", "found"] ["script"] (defScope s_law) := ⟨rfl, rfl, rfl, by decide +kernel, rfl, by decide +kernel, by decide +kernel⟩
section
variable {X : Cx} (K : PySem.W.Frag)
theorem ix_listK (h : X.K = K := by rfl) : IxR X (rIxL K) := h ▸ ix_list
theorem ix_tupK (h : X.K = K := by rfl) : IxR X (rIxT K) := h ▸ ix_tup
theorem sl_listK (h : X.K = K := by rfl) : SlR X (rSlL K) := h ▸ sl_list
theorem pg_tupK {es : List Expr} {k : Nat} {t : TGs} {n : Nat} {pos : Pos} (hc : X.calm = true) (h : PGs X es t)
    (hn : (assignEach es X.env).length = n := by rfl) (hst : (assignEach es X.env).findIdx? (·.1) = none := by rfl) (hK : X.K = K := by rfl) : PG X (.Tuple es k pos) (gTup K n t) := hK ▸ pg_tup hc h hn hst
theorem op_in_seqK (h : X.K = K := by rfl) : OpR X (compareOp .In) (rIn K false) := h ▸ op_in_seq
theorem op_notIn_seqK (h : X.K = K := by rfl) : OpR X (compareOp .NotIn) (rIn K true) := h ▸ op_notIn_seq
theorem op_eqDK (hu : X.A.units + 64 < cLine) (h : X.K = K := by rfl) : OpR X (compareOp .Eq) (rEqD K) := h ▸ op_eqD hu
theorem op_neDK (hu : X.A.units + 64 < cLine) (h : X.K = K := by rfl) : OpR X (compareOp .NotEq) (rNeD K) := h ▸ op_neD hu
theorem op_inDK (hu : X.A.units + 65 < cLine) (h : X.K = K := by rfl) : OpR X (compareOp .In) (rInD K) := h ▸ op_inD hu
theorem op_notInDK (hu : X.A.units + 65 < cLine) (h : X.K = K := by rfl) : OpR X (compareOp .NotIn) (rNotInD K) := h ▸ op_notInD hu
theorem call_len_seqK (h : X.K = K := by rfl) : CallR X (.builtin "len") (fun xs H Q => ∃ p ys, xs = [.ref p] ∧ (SqL K H p ys ∨ SqT K H p ys) ∧ Q (.int ys.length) H) := h ▸ call_len_seq
theorem call_list_ofK (h : X.K = K := by rfl) : CallR X (.type "list") (fun xs H Q => ∃ p ys, xs = [.ref p] ∧ (SqL K H p ys ∨ SqT K H p ys) ∧ ∀ l, H l = none → Q (.ref l) (upd H l (.lst ys))) := h ▸ call_list_of
end
section
variable {P : Program} {w : World} {K : PySem.W.Frag} {mg : Str → Option Value} {base : Heap} {tM : Tok}
/-! #### asked_many -/
def spMany (C : Addr) : Sp := fun vs H Q E => ∃ m M : Int, vs = [.int m, .int M] ∧ ((m < 0 ∨ M < m) → E (.ref C) none H) ∧ (¬ (m < 0 ∨ M < m) → Q .non H)
theorem ok_asked_many {C_NoMany : Addr} (A : At K mg "asked_many" s_asked_many) (B : Bt mg tM) (X_NoMany : XT K mg "NoMany" C_NoMany) :
    Def P w K mg base (L2.CX P w) 1 "asked_many" ["many", "most"] (spMany C_NoMany) := by
  obtain ⟨f, fd, F, gm⟩ := A
  refine ⟨⟨f, fd, F.okX sc_asked_many (fun vs H Q E h => ?_) (fun cdv A outer s H vs Q E hr h => ?_), gm, F.kp, F.binds fun _ _ _ _ _ _ us hl => match us, hl with | [_, _], _ => rfl⟩⟩
  · obtain ⟨m, M, rfl, _⟩ := h
    rfl
  · obtain ⟨m, M, rfl, kE, kQ⟩ := h
    have tk := takes_of (X := cxOf (L2.CX P w) P w K mg base ["many", "most"] "asked_many" (defScope s_asked_many) f cdv A outer s H E) (E := E) rfl rfl rfl rfl
    refine ⟨_, (pss_one (ps_if (PW.pt (pw_or (pt_cmpR op_lt (pv 0) pe_int (nomark _)) (pw_or1 (pt_cmpR op_gt (pv 0) (pv 1) (nomark _))))) (pss_one (ps_raise rfl tk (pmk_own PySem.F.excBase_ValueError X_NoMany.x X_NoMany.g X_NoMany.k (raises_own X_NoMany.b X_NoMany.t) (by rfl)))) pss_nil)), ?_⟩
    refine ⟨_, rfl, m, 0, rfl, rfl, _, rfl, ite2 (fun h1 => ?_) (fun h1 => ?_)⟩
    · exact iteT (kE (.inl (of_decide_eq_true h1)))
    · have h1' : ¬ m < 0 := fun z => h1 (decide_eq_true z)
      refine ⟨_, rfl, _, rfl, m, M, rfl, rfl, _, rfl, ite2 (fun h2 => ?_) (fun h2 => ?_)⟩
      · exact kE (.inr (of_decide_eq_true h2))
      · exact kQ fun z => z.elim h1' fun q => h2 (decide_eq_true q)
/-! #### asked_set -/
def spSet (K : PySem.W.Frag) (C : Addr) : Sp := fun vs H Q E => ∃ (m : Int) (a : Addr) (ms : List Int), vs = [.int m, .ref a] ∧ SqL K H a (ms.map V.int) ∧ (setOk m (-1) ms = false → E (.ref C) none H) ∧ (setOk m (-1) ms = true → Q .non H)
theorem ok_asked_set {C_NoSet : Addr} (A : At K mg "asked_set" s_asked_set) (B : Bt mg tM) (X_NoSet : XT K mg "NoSet" C_NoSet) :
    Def P w K mg base (L2.CX P w) 1 "asked_set" ["many", "members"] (spSet K C_NoSet) := by
  obtain ⟨f, fd, F, gm⟩ := A
  refine ⟨⟨f, fd, F.okX sc_asked_set (fun vs H Q E h => ?_) (fun cdv A outer s H vs Q E hr h => ?_), gm, F.kp, F.binds fun _ _ _ _ _ _ us hl => match us, hl with | [_, _], _ => rfl⟩⟩
  · obtain ⟨m, a, ms, rfl, _⟩ := h
    rfl
  · obtain ⟨m, a, ms, rfl, hS, kE, kQ⟩ := h
    have tk := takes_of (X := cxOf (L2.CX P w) P w K mg base ["many", "members", "before", "thing"] "asked_set" (defScope s_asked_set) f cdv A outer s H E) (E := E) rfl rfl rfl rfl
    refine ⟨_, (pss_cons (ps_set (i := 2) sc_asked_set.nd rfl (.inl rfl) (pe_un un_neg pe_int))
    (pss_one (ps_for (passes_of rfl) rfl (pi_list (pv 1)) (pg_name (i := 3) sc_asked_set.nd rfl (.inl rfl)) (pss_cons (ps_if (PW.pt (pw_or (pt_cmpR op_le (pv 3) (pv 2) (nomark _)) (pw_or1 (pt_cmpR op_ge (pv 3) (pv 0) (nomark _))))) (pss_one (ps_raise rfl tk (pmk_own PySem.F.excBase_ValueError X_NoSet.x X_NoSet.g X_NoSet.k (raises_own X_NoSet.b X_NoSet.t) (by rfl)))) pss_nil)
    (pss_one (ps_set (i := 2) sc_asked_set.nd rfl (.inl rfl) (pv 3))))))), ?_⟩
    refine ⟨1, rfl, _, rfl, a, rfl, ⟨_, hS⟩, ?_⟩
    refine for_list (K := K) (a := a) (xs := ms.map V.int) (fun i σ H' => H' = H ∧ ∃ (b : Int) (y : Option V), σ = [some (.int m), some (.ref a), some (.int b), y] ∧ setOk m (-1) ms = setOk m b (ms.drop i)) ⟨rfl, -1, none, rfl, rfl⟩ (fun i σ H' _ ⟨e, _⟩ => e ▸ hS) ?_ ?_
    · rintro i x σ H' hi ⟨rfl, b, y, rfl, e⟩
      obtain ⟨v, hv, rfl⟩ := at_map hi
      have ed : ms.drop i = v :: ms.drop (i + 1) := List.drop_eq_getElem?_toList_append.trans (by rw [hv]; rfl)
      rw [ed] at e
      refine ⟨_, rfl, _, rfl, v, b, rfl, rfl, _, rfl, ite2 (fun h1 => ?_) (fun h1 => ?_)⟩
      · refine iteT (kE ?_)
        rw [e]
        exact if_pos (.inl (of_decide_eq_true h1))
      · have h1' : ¬ v ≤ b := fun z => h1 (decide_eq_true z)
        refine ⟨_, rfl, _, rfl, v, m, rfl, rfl, _, rfl, ite2 (fun h2 => ?_) (fun h2 => ?_)⟩
        · refine kE ?_
          rw [e]
          exact if_pos (.inr (of_decide_eq_true h2))
        · have h2' : ¬ m ≤ v := fun z => h2 (decide_eq_true z)
          refine ⟨_, rfl, rfl, v, some (.int v), rfl, ?_⟩
          rw [e]
          exact if_neg (fun z => z.elim h1' h2')
    · rintro σ H' ⟨rfl, b, y, rfl, e⟩
      refine kQ ?_
      rw [e, List.drop_of_length_le (by rw [List.length_map]; exact Nat.le_refl _)]
      all_goals rfl
/-! #### picks -/
def spPicks : Sp := fun vs H Q _ => ∃ t s : Int, vs = [.int t, .int s] ∧ t ≤ 60 ∧ Q (.int (picks t s)) H
theorem ok_picks (A : At K mg "picks" s_picks) (B : Bt mg tM) :
    Def P w K mg base CX0 1 "picks" ["total", "some"] spPicks := by
  obtain ⟨f, fd, F, gm⟩ := A
  refine ⟨⟨f, fd, F.ok sc_picks (fun vs H Q E h => ?_) (fun cdv A outer s H vs Q E hr h => ?_), gm, F.kp, F.binds fun _ _ _ _ _ _ us hl => match us, hl with | [_, _], _ => rfl⟩⟩
  · obtain ⟨t, s, rfl, _⟩ := h
    rfl
  · obtain ⟨t, s, rfl, ht, q⟩ := h
    refine ⟨_, (pss_cons (ps_if (PW.pt (pw_or (pt_cmpR op_lt (pv 1) pe_int (nomark _)) (pw_or1 (pt_cmpR op_gt (pv 1) (pv 0) (nomark _))))) (pss_one (ps_ret pe_int)) pss_nil)
    (pss_cons (ps_set (i := 2) sc_picks.nd rfl (.inl rfl) pe_int)
    (pss_cons (ps_for PassesOwn.never rfl (pi_range1 (by rfl) B.range (pa_cons (pv 1) pa_nil)) (pg_name (i := 3) sc_picks.nd rfl (.inl rfl)) (pss_one (ps_set (i := 2) sc_picks.nd rfl (.inl rfl) (pe_op op_fdiv (pe_op op_mul (pv 2) (pe_op op_sub (pv 0) (pv 3))) (pe_op op_add (pv 3) pe_int)))))
    (pss_one (ps_ret (pv 2)))))), ?_⟩
    have fin : (s < 0 ∨ t < s) → Q (.int 0) H := fun h => by
      have e : picks t s = 0 := if_pos h
      rw [← e]
      exact q
    refine ⟨_, rfl, s, 0, rfl, rfl, _, rfl, ite2 (fun h1 => ?_) (fun h1 => ?_)⟩
    · exact iteT (fin (.inl (of_decide_eq_true h1)))
    · have h1' : ¬ s < 0 := fun z => h1 (decide_eq_true z)
      refine ⟨_, rfl, _, rfl, s, t, rfl, rfl, _, rfl, ite2 (fun h2 => ?_) (fun h2 => ?_)⟩
      · exact fin (.inr (of_decide_eq_true h2))
      · have h2' : ¬ t < s := fun z => h2 (decide_eq_true z)
        obtain ⟨n, rfl⟩ : ∃ n : Nat, t = (n : Int) := ⟨t.toNat, by omega⟩
        obtain ⟨k, rfl⟩ : ∃ k : Nat, s = (k : Int) := ⟨s.toNat, by omega⟩
        refine ⟨_, rfl, (k : Int), rfl, by omega, by omega, ?_⟩
        refine for_range (lo := 0) (n := ((k : Int)).toNat) (fun i σ H' => H' = H ∧ ∃ y, σ = [some (.int (n : Int)), some (.int (k : Int)), some (.int (ch n i : Int)), y]) ⟨rfl, none, by rw [ch_zero]; rfl⟩ ?_ ?_
        · rintro i σ H' hi ⟨rfl, y, rfl⟩
          have hi' : i ≤ n := by omega
          have b1 := ch_le n i
          have b2 : (2 : Nat) ^ n ≤ 2 ^ 60 := Nat.pow_le_pow_right (by decide) (by omega)
          refine ⟨_, rfl, _, rfl, _, rfl, _, _, rfl, rfl, _, _, rfl, rfl, .inl ⟨by omega, by omega⟩, _, rfl, _, _, rfl, rfl, _, _, rfl, rfl, ⟨by omega, by omega⟩, rfl, some (.int ((0 : Int) + (i : Int))), ?_⟩
          show _ = [_, _, some (V.int (ch n (i + 1) : Int)), _]
          rw [← ch_div hi', Int.zero_add]
          rfl
        · rintro σ H' ⟨rfl, y, rfl⟩
          refine ⟨_, rfl, ?_⟩
          show Q (.int (ch n ((k : Int)).toNat : Int)) _
          rw [show ((k : Int)).toNat = k from rfl, ← picks_nat]
          exact q
/-! #### asked_family -/
def famOk (m : Int) (rows : List (List Int)) : Bool := (rows.all fun r => setOk m (-1) r) && decide rows.Nodup
theorem dup_step {rows : List (List Int)} {k : Nat} {r : List Int} (h : rows[k]? = some r) : (rows.take (k + 1)).Nodup ↔ (rows.take k).Nodup ∧ r ∉ rows.take k := by
  rw [take_snoc h, List.nodup_append]
  constructor
  · rintro ⟨h1, _, h3⟩
    exact ⟨h1, fun z => h3 r z r (List.mem_singleton.mpr rfl) rfl⟩
  · rintro ⟨h1, h2⟩
    refine ⟨h1, by simp, fun a ha b hb e => ?_⟩
    rw [List.mem_singleton] at hb
    subst hb e
    exact h2 ha
theorem famOk_iff {m : Int} {rows : List (List Int)} : famOk m rows = true ↔ (∀ r ∈ rows, setOk m (-1) r = true) ∧ rows.Nodup := by
  unfold famOk
  rw [Bool.and_eq_true, List.all_eq_true, decide_eq_true_eq]
/-- the program's own looks at a family -/
def FGuard (CM CS : Addr) (m : Int) (rows : List (List Int)) (E : XK) (H : Hp) (good : Prop) : Prop :=
  ((m < 0 ∨ 40 < m) → E (.ref CM) none H) ∧ (¬ (m < 0 ∨ 40 < m) → famOk m rows = false → ∀ H', Same H H' → E (.ref CS) none H') ∧ (∀ n : Nat, m = (n : Int) → n ≤ 40 → (∀ r ∈ rows, IsSet n r) → rows.Nodup → good)
theorem FGuard.of {CM CS : Addr} {n : Nat} {rows : List (List Int)} {E : XK} {H : Hp} {good : Prop} (hn : n ≤ 40) (h : ∀ r ∈ rows, IsSet n r) (nd : rows.Nodup) (g : good) : FGuard CM CS n rows E H good :=
  ⟨fun z => absurd z (by omega), fun _ z => by rw [famOk_iff.mpr ⟨fun r hr => setOk_set.mpr (h r hr), nd⟩] at z; (cases z), fun _ _ _ _ _ => g⟩
def spFam (K : PySem.W.Frag) (CM CS : Addr) : Sp := fun vs H Q E => ∃ (m : Int) (a : Addr) (as : List Addr) (rows : List (List Int)), vs = [.int m, .ref a] ∧ SqL K H a (as.map V.ref) ∧ Rows H as rows ∧ rows.length ≤ 1000 ∧
  FGuard CM CS m rows E H (∀ H', Same H H' → Q .non H')
theorem ok_asked_family {C_NoMany : Addr} {C_NoSet : Addr} (A : At K mg "asked_family" s_asked_family) (B : Bt mg tM) (X_NoSet : XT K mg "NoSet" C_NoSet) (D_asked_many : Def P w K mg base (L2.CX P w) 1 "asked_many" ["many", "most"] (spMany C_NoMany)) (D_asked_set : Def P w K mg base (L2.CX P w) 1 "asked_set" ["many", "members"] (spSet K C_NoSet)) :
    Def P w K mg base (L2.CX P w) 2 "asked_family" ["many", "family"] (spFam K C_NoMany C_NoSet) := by
  obtain ⟨f, fd, F, gm⟩ := A
  obtain ⟨f_asked_many, fd_asked_many, G_asked_many, g_asked_many, k_asked_many, b_asked_many⟩ := D_asked_many.ex
  obtain ⟨f_asked_set, fd_asked_set, G_asked_set, g_asked_set, k_asked_set, b_asked_set⟩ := D_asked_set.ex
  refine ⟨⟨f, fd, F.okX sc_asked_family (fun vs H Q E h => ?_) (fun cdv A outer s H vs Q E hr h => ?_), gm, F.kp, F.binds fun _ _ _ _ _ _ us hl => match us, hl with | [_, _], _ => rfl⟩⟩
  · obtain ⟨m, a, as, rows, rfl, _⟩ := h
    rfl
  · obtain ⟨m, a, as, rows, rfl, hS, hr0, hlen, g⟩ := h
    have tk := takes_of (X := cxOf (L2.CX P w) P w K mg base ["many", "family", "members", "k"] "asked_family" (defScope s_asked_family) f cdv A outer s H E) (E := E) rfl rfl rfl rfl
    refine ⟨_, (pss_cons (ps_expr (pe_call G_asked_many (hr.mono (by decide)) (by rfl) g_asked_many k_asked_many b_asked_many .nil (passes_call tk (fun _ _ _ _ h => h)) (pa_cons (pv 0) (pa_cons (pe_glob (v := .int 40) rfl B.MOST ⟨_, rfl⟩) pa_nil))))
    (pss_cons (ps_for (passes_of rfl) rfl (pi_list (pv 1)) (pg_name (i := 2) sc_asked_family.nd rfl (.inl rfl)) (pss_one (ps_expr (pe_call G_asked_set (hr.mono (by decide)) (by rfl) g_asked_set k_asked_set b_asked_set .nil (passes_call tk (fun _ _ _ _ h => h)) (pa_cons (pv 0) (pa_cons (pv 2) pa_nil))))))
    (pss_one (ps_for (passes_of rfl) rfl (pi_range1 (by rfl) B.range (pa_cons (pe_callB call_len_seq (by rfl) B.len (by decide +kernel) (pa_cons (pv 1) pa_nil)) pa_nil)) (pg_name (i := 3) sc_asked_family.nd rfl (.inl rfl)) (pss_one (ps_if (pt_cmpR (op_inD (inD_u hr)) (pe_ix ix_list (pv 1) (pv 3) (fun _ _ => rfl)) (pe_slice sl_list (pv 1) po_none (po_some (pv 3))) (by rfl)) (pss_one (ps_raise rfl tk (pmk_own PySem.F.excBase_ValueError X_NoSet.x X_NoSet.g X_NoSet.k (raises_own X_NoSet.b X_NoSet.t) (by rfl)))) pss_nil)))))), ?_⟩
    refine ⟨_, rfl, m, 40, rfl, g.1, fun hm => ?_⟩
    have las := hr0.len
    refine ⟨_, rfl, a, rfl, ⟨_, hS⟩, ?_⟩
    refine for_list (K := K) (a := a) (xs := as.map V.ref) (fun i σ H' => H' = H ∧ (∀ r ∈ rows.take i, setOk m (-1) r = true) ∧ ∃ y, σ = [some (.int m), some (.ref a), y, none]) ⟨rfl, (fun _ h => nomatch h), none, rfl⟩ (fun i σ H' _ ⟨e, _⟩ => e ▸ hS) ?_ ?_
    · rintro i x σ H' hi ⟨rfl, h1, y, rfl⟩
      obtain ⟨b, eb, rfl⟩ : ∃ b, as[i]? = some b ∧ x = .ref b := by
        rw [List.getElem?_map] at hi
        cases e : as[i]? with
        | none => rw [e] at hi; cases hi
        | some b => rw [e] at hi; exact ⟨b, rfl, (Option.some.inj hi).symm⟩
      obtain ⟨r, er, hb⟩ := hr0.at eb
      refine ⟨_, rfl, _, rfl, m, b, r, rfl, SqL.of hb, fun z => ?_, fun z => ⟨rfl, fun t ht => ?_, _, rfl⟩⟩
      · refine g.2.1 hm ?_ _ (Same.refl _)
        cases e : famOk m rows with
        | false => rfl
        | true =>
          have := (famOk_iff.mp e).1 r (List.mem_of_getElem? er)
          rw [z] at this
          cases this
      · rw [take_snoc er] at ht
        rcases List.mem_append.mp ht with ht | ht
        · exact h1 t ht
        · rw [List.mem_singleton] at ht
          rw [ht]
          exact z
    · rintro σ H' ⟨rfl, h1, y, rfl⟩
      rw [List.length_map, las, List.take_length] at h1
      refine ⟨_, rfl, a, _, rfl, .inl hS, _, rfl, by omega, by rw [List.length_map]; omega, ?_⟩
      refine for_range (lo := 0) (n := (((as.map V.ref).length : Nat) : Int).toNat) (fun i σ H2 => Same H' H2 ∧ (rows.take i).Nodup ∧ ∃ z, σ = [some (.int m), some (.ref a), y, z]) ⟨Same.refl _, by rw [List.take_zero]; exact List.nodup_nil, none, rfl⟩ ?_ ?_
      · rintro i σ H2 hi ⟨s2, nd, z, rfl⟩
        have il : i < rows.length := by rw [List.length_map] at hi; omega
        have gr : rows[i]? = some rows[i] := List.getElem?_eq_getElem il
        generalize rows[i] = r at *
        have hr2 := hr0.same s2
        obtain ⟨b, eb, hb⟩ := hr2.get gr
        have ei : ((0 : Int) + (i : Int)) = (i : Int) := Int.zero_add _
        have ab : atI (as.map V.ref) ((0 : Int) + (i : Int)) = some (.ref b) := by
          rw [ei]
          exact atI_nat (by rw [List.getElem?_map, eb]; rfl)
        refine ⟨_, rfl, _, rfl, a, _, _, _, rfl, rfl, s2.seq hS, ab, _, rfl, _, rfl, _, rfl, a, _, rfl, s2.seq hS, fun c nc => ?_⟩
        have s3 : ∀ o, Same H2 (upd H2 c o) := fun o => same_new nc
        have hc : (upd H2 c (.lst (cutV (as.map V.ref) none (some ((0 : Int) + (i : Int)))))) c = some (.lst ((as.take i).map V.ref)) := by rw [upd_same, ei, cut_take, List.map_take]
        have rt : Rows (upd H2 c (.lst (cutV (as.map V.ref) none (some ((0 : Int) + (i : Int)))))) (as.take i) (rows.take i) := by
          have := hr2.same (s3 (.lst (cutV (as.map V.ref) none (some ((0 : Int) + (i : Int))))))
          exact Rows.take this i
        refine ⟨dI r, (rows.take i).map dI, dp_I (SqL.of (s3 _ _ _ hb)), dp_L (SqL.of hc) rt, dI_shaped _, dL_shaped _, _, rfl, ?_⟩
        rw [dL_any]
        by_cases hd : r ∈ rows.take i
        · rw [decide_eq_true hd]
          refine iteT ?_
          refine g.2.1 hm ?_ _ (s2.trans (s3 _))
          cases e : famOk m rows with
          | false => rfl
          | true =>
            have nd2 : (rows.take (i + 1)).Nodup := (famOk_iff.mp e).2.sublist (List.take_sublist _ _)
            exact absurd hd ((dup_step gr).mp nd2).2
        · rw [decide_eq_false hd]
          exact iteF ⟨s2.trans (s3 _), (dup_step gr).mpr ⟨nd, hd⟩, _, rfl⟩
      · rintro σ H2 ⟨s2, nd, z, rfl⟩
        have en : (((as.map V.ref).length : Nat) : Int).toNat = rows.length := by rw [List.length_map, las]; rfl
        rw [en, List.take_length] at nd
        obtain ⟨n, e⟩ : ∃ n : Nat, m = (n : Int) := ⟨m.toNat, by omega⟩
        refine g.2.2 n e (by omega) (fun r hr => ?_) nd _ s2
        have := h1 r hr
        rw [e] at this
        exact setOk_set.mp this
/-! #### common -/
def spCommon : Sp := fun vs H Q _ => ∃ x y : Nat, vs = [.int (x : Int), .int (y : Int)] ∧ Q (.int (Nat.gcd x y : Int)) H
theorem ok_common (A : At K mg "common" s_common) (B : Bt mg tM) :
    Def P w K mg base CX0 1 "common" ["one", "other"] spCommon := by
  obtain ⟨f, fd, F, gm⟩ := A
  refine ⟨⟨f, fd, F.ok sc_common (fun vs H Q E h => ?_) (fun cdv A outer s H vs Q E hr h => ?_), gm, F.kp, F.binds fun _ _ _ _ _ _ us hl => match us, hl with | [_, _], _ => rfl⟩⟩
  · obtain ⟨x, y, rfl, _⟩ := h
    rfl
  · obtain ⟨x, y, rfl, q⟩ := h
    refine ⟨_, (pss_cons (ps_while PassesOwn.never (pt_cmpR op_gt (pv 1) pe_int (nomark _)) (pss_one (ps_par (i := 0) (j := 1) (by rfl) sc_common.nd rfl rfl (by decide) rfl rfl (pa_cons (pv 1) (pa_cons (pe_op op_mod (pv 0) (pv 1)) pa_nil)) (by rfl))))
    (pss_one (ps_ret (pv 0)))), ?_⟩
    refine while_by (fun σ H' => H' = H ∧ ∃ a b : Nat, Nat.gcd a b = Nat.gcd x y ∧ σ = [some (.int (a : Int)), some (.int (b : Int))]) (fun σ _ => match σ with | [_, some (.int b)] => b.toNat | _ => 0) ⟨rfl, x, y, rfl, rfl⟩ ?_ ?_
    · rintro σ H' ⟨rfl, a, b, e, rfl⟩
      refine ⟨_, rfl, _, _, rfl, rfl, _, rfl, ite2 (fun h1 => ?_) (fun h1 => ?_)⟩
      · have h1 : (0 : Int) < (b : Int) := of_decide_eq_true h1
        refine ⟨_, rfl, _, rfl, _, rfl, _, _, rfl, rfl, h1, _, _, rfl, ?_⟩
        refine ⟨⟨rfl, b, a % b, ?_, rfl⟩, ?_⟩
        · rw [← e, Nat.gcd_comm b, ← Nat.gcd_rec, Nat.gcd_comm]
        · show ((a : Int) % (b : Int)).toNat < ((b : Int)).toNat
          have := Nat.mod_lt a (show b > 0 by omega)
          rw [show ((a : Int) % (b : Int)) = ((a % b : Nat) : Int) from rfl]
          omega
      · have h1' : ¬ (0 : Int) < (b : Int) := fun z => h1 (decide_eq_true z)
        have e0 : b = 0 := by omega
        subst e0
        rw [Nat.gcd_zero_right] at e
        refine ⟨_, rfl, ?_⟩
        rw [← e] at q
        exact q
    · rintro σ H' Q1 Q2 imp h
      obtain ⟨x1, h1, a, b, h2, h3, c, h4, h5⟩ := h
      exact ⟨x1, h1, a, b, h2, h3, c, h4, imp _ _ h5⟩
/-! #### share -/
theorem sh_small {n : Nat} {F : List (List Int)} (hn : n ≤ 40) (hF : F.length ≤ 8) : (sh n F).1 < 2 ^ 330 ∧ (sh n F).2 < 2 ^ 330 := by
  have hb : ∀ k, ch n k ≤ 2 ^ 40 := fun k => Nat.le_trans (ch_le n k) (Nat.pow_le_pow_right (by decide) hn)
  obtain ⟨h1, h2⟩ := sh_bound hb (Nat.one_le_two_pow) F
  have e : (2 ^ 40) ^ F.length ≤ 2 ^ 320 := by
    rw [← Nat.pow_mul]
    exact Nat.pow_le_pow_right (by decide) (by omega)
  have h3 : F.length * (2 ^ 40) ^ F.length ≤ 8 * 2 ^ 320 := Nat.mul_le_mul hF e
  have l1 : 8 * 2 ^ 320 < 2 ^ 330 := by decide
  have l2 : 2 ^ 320 < 2 ^ 330 := by decide
  exact ⟨Nat.lt_of_le_of_lt (Nat.le_trans h2 h3) l1, Nat.lt_of_le_of_lt (Nat.le_trans h1 e) l2⟩
/-- x / u is the share, in lowest terms -/
structure Share (n : Nat) (F : List (List Int)) (x u : Nat) : Prop where
  pos : 1 ≤ u
  low : Nat.gcd x u = 1
  eq : x * (sh n F).2 = (sh n F).1 * u
  bx : x ≤ (sh n F).1
  bu : u ≤ (sh n F).2
theorem Share.nil (n : Nat) : Share n [] 0 1 := ⟨by decide, by decide, rfl, Nat.le_refl _, Nat.le_refl _⟩
theorem Share.snoc {n : Nat} {F : List (List Int)} {x u : Nat} {A : List Int} (h : Share n F x u) (hA : A.length ≤ n) :
    let g := Nat.gcd (x * ch n A.length + u) (u * ch n A.length)
    1 ≤ g ∧ g ≤ u * ch n A.length ∧ Share n (F ++ [A]) ((x * ch n A.length + u) / g) ((u * ch n A.length) / g) := by
  obtain ⟨pos, low, eq, bx, bu⟩ := h
  have cp := ch_pos hA
  generalize hc : ch n A.length = c at *
  intro g
  have up : 0 < u * c := Nat.mul_pos (by omega) cp
  have gp : 0 < g := Nat.gcd_pos_of_pos_right _ up
  have d1 : g ∣ x * c + u := Nat.gcd_dvd_left _ _
  have d2 : g ∣ u * c := Nat.gcd_dvd_right _ _
  have gl : g ≤ u * c := Nat.le_of_dvd up d2
  have es := sh_snoc n F A
  rw [hc] at es
  have b1 : x * c + u ≤ (sh n F).1 * c + (sh n F).2 := by
    have := Nat.mul_le_mul_right c bx
    omega
  have b2 : u * c ≤ (sh n F).2 * c := Nat.mul_le_mul_right c bu
  refine ⟨gp, gl, ⟨?_, ?_, ?_, ?_, ?_⟩⟩
  · exact Nat.div_pos gl gp
  · exact Nat.gcd_div_gcd_div_gcd_of_pos_right up
  · rw [es]
    dsimp only
    refine Nat.eq_of_mul_eq_mul_left gp ?_
    have e1 : g * ((x * c + u) / g) = x * c + u := Nat.mul_div_cancel' d1
    have e2 : g * (u * c / g) = u * c := Nat.mul_div_cancel' d2
    have l1 : g * ((x * c + u) / g * ((sh n F).2 * c)) = (x * c + u) * ((sh n F).2 * c) := by rw [← Nat.mul_assoc, e1]
    have r1 : g * (((sh n F).1 * c + (sh n F).2) * (u * c / g)) = ((sh n F).1 * c + (sh n F).2) * (u * c) := by rw [Nat.mul_left_comm, e2]
    rw [l1, r1, Nat.add_mul, Nat.add_mul]
    have e3 : x * c * ((sh n F).2 * c) = (sh n F).1 * c * (u * c) := by
      calc x * c * ((sh n F).2 * c) = (x * (sh n F).2) * (c * c) := by simp only [Nat.mul_assoc, Nat.mul_left_comm]
        _ = ((sh n F).1 * u) * (c * c) := by rw [eq]
        _ = (sh n F).1 * c * (u * c) := by simp only [Nat.mul_assoc, Nat.mul_left_comm]
    have e4 : u * ((sh n F).2 * c) = (sh n F).2 * (u * c) := Nat.mul_left_comm _ _ _
    rw [e3, e4]
  · rw [es]
    exact Nat.le_trans (Nat.div_le_self _ _) b1
  · rw [es]
    exact Nat.le_trans (Nat.div_le_self _ _) b2
def spShare (K : PySem.W.Frag) (CM CS : Addr) : Sp := fun vs H Q E => ∃ (m : Int) (a : Addr) (as : List Addr) (rows : List (List Int)), vs = [.int m, .ref a] ∧ SqL K H a (as.map V.ref) ∧ Rows H as rows ∧ rows.length ≤ 8 ∧
  FGuard CM CS m rows E H (∀ H' p (x u : Nat), Same H H' → H p = none → Share m.toNat rows x u → H' p = some (.tup [.int (x : Int), .int (u : Int)]) → Q (.ref p) H')
theorem ok_share {C_NoMany : Addr} {C_NoSet : Addr} (A : At K mg "share" s_share) (B : Bt mg tM) (D_asked_family : Def P w K mg base (L2.CX P w) 2 "asked_family" ["many", "family"] (spFam K C_NoMany C_NoSet)) (D_picks : Def P w K mg base CX0 1 "picks" ["total", "some"] spPicks) (D_common : Def P w K mg base CX0 1 "common" ["one", "other"] spCommon) :
    Def P w K mg base (L2.CX P w) 3 "share" ["many", "family"] (spShare K C_NoMany C_NoSet) := by
  obtain ⟨f, fd, F, gm⟩ := A
  obtain ⟨f_asked_family, fd_asked_family, G_asked_family, g_asked_family, k_asked_family, b_asked_family⟩ := D_asked_family.ex
  obtain ⟨f_picks, fd_picks, G_picks, g_picks, k_picks, b_picks⟩ := D_picks.ex
  obtain ⟨f_common, fd_common, G_common, g_common, k_common, b_common⟩ := D_common.ex
  refine ⟨⟨f, fd, F.okX sc_share (fun vs H Q E h => ?_) (fun cdv A outer s H vs Q E hr h => ?_), gm, F.kp, F.binds fun _ _ _ _ _ _ us hl => match us, hl with | [_, _], _ => rfl⟩⟩
  · obtain ⟨m, a, as, rows, rfl, _⟩ := h
    rfl
  · obtain ⟨m, a, as, rows, rfl, hS, hr0, hlen, g⟩ := h
    have tk := takes_of (X := cxOf (L2.CX P w) P w K mg base ["many", "family", "above", "under", "members", "part", "both"] "share" (defScope s_share) f cdv A outer s H E) (E := E) rfl rfl rfl rfl
    refine ⟨_, (pss_cons (ps_expr (pe_call G_asked_family (hr.mono (by decide)) (by rfl) g_asked_family k_asked_family b_asked_family .nil (passes_call tk (fun _ _ _ _ h => h)) (pa_cons (pv 0) (pa_cons (pv 1) pa_nil))))
    (pss_cons (ps_set (i := 2) sc_share.nd rfl (.inl rfl) pe_int)
    (pss_cons (ps_set (i := 3) sc_share.nd rfl (.inl rfl) pe_int)
    (pss_cons (ps_for (passes_of rfl) rfl (pi_list (pv 1)) (pg_name (i := 4) sc_share.nd rfl (.inl rfl)) (pss_cons (ps_set (i := 5) sc_share.nd rfl (.inl rfl) (pe_call G_picks (hr.mono (by decide)) (by rfl) g_picks k_picks b_picks .nil pass0 (pa_cons (pv 0) (pa_cons (pe_callB call_len_seq (by rfl) B.len (by decide +kernel) (pa_cons (pv 4) pa_nil)) pa_nil))))
    (pss_cons (ps_set (i := 2) sc_share.nd rfl (.inl rfl) (pe_op op_add (pe_op op_mulW (pv 2) (pv 5)) (pv 3)))
    (pss_cons (ps_set (i := 3) sc_share.nd rfl (.inl rfl) (pe_op op_mulW (pv 3) (pv 5)))
    (pss_cons (ps_set (i := 6) sc_share.nd rfl (.inl rfl) (pe_call G_common (hr.mono (by decide)) (by rfl) g_common k_common b_common .nil pass0 (pa_cons (pv 2) (pa_cons (pv 3) pa_nil))))
    (pss_cons (ps_set (i := 2) sc_share.nd rfl (.inl rfl) (pe_op op_fdivW (pv 2) (pv 6)))
    (pss_one (ps_set (i := 3) sc_share.nd rfl (.inl rfl) (pe_op op_fdivW (pv 3) (pv 6))))))))))
    (pss_one (ps_ret (pe_tup (pa_cons (pv 2) (pa_cons (pv 3) pa_nil))))))))), ?_⟩
    have las := hr0.len
    refine ⟨_, rfl, _, rfl, m, a, as, rows, rfl, hS, hr0, by omega, g.1, g.2.1, fun n e hn hsets nd H1 s1 => ?_⟩
    have gg := g.2.2 n e hn hsets nd
    subst e
    rw [show ((n : Int)).toNat = n from rfl] at gg
    have hS1 := s1.seq hS
    have hr1 := hr0.same s1
    refine ⟨_, rfl, a, rfl, ⟨_, hS1⟩, ?_⟩
    refine for_list (K := K) (a := a) (xs := as.map V.ref) (fun i σ H' => H1 = H' ∧ ∃ (x u : Nat) (y z w : Option V), Share n (rows.take i) x u ∧ σ = [some (.int (n : Int)), some (.ref a), some (.int (x : Int)), some (.int (u : Int)), y, z, w])
      ⟨rfl, 0, 1, none, none, none, by rw [List.take_zero]; exact Share.nil n, rfl⟩ (fun i σ H' _ ⟨e, _⟩ => e ▸ hS1) ?_ ?_
    · rintro i x0 σ H' hi ⟨rfl, x, u, y, z, w, sh1, rfl⟩
      have il : i < rows.length := by
        have := (List.getElem?_eq_some_iff.mp hi).1
        rw [List.length_map, las] at this
        exact this
      have gi : rows[i]? = some rows[i] := List.getElem?_eq_getElem il
      have hset := hsets _ (List.getElem_mem il)
      generalize rows[i] = r at *
      obtain ⟨b, eb, hb⟩ := hr1.get gi
      have ex : x0 = .ref b := by
        rw [List.getElem?_map, eb] at hi
        exact (Option.some.inj hi).symm
      subst ex
      have hl := hset.len
      have ti := take_snoc gi
      obtain ⟨g1, g2, sh2⟩ := sh1.snoc hl
      have sb := sh_small hn (F := rows.take i) (by rw [List.length_take]; omega)
      have sb2 := sh_small hn (F := rows.take i ++ [r]) (by rw [← ti, List.length_take]; omega)
      rw [sh_snoc] at sb2
      dsimp only at sb2
      have cl : ch n r.length < 2 ^ 41 := Nat.lt_of_le_of_lt (ch_le n r.length) (Nat.pow_lt_pow_right (by decide) (by omega))
      rw [← ti] at sh2
      have bx := sh1.bx
      have bu := sh1.bu
      refine ⟨_, rfl, _, rfl, b, _, rfl, .inl (SqL.of hb), (n : Int), _, rfl, by omega, ?_⟩
      rw [List.length_map, picks_nat]
      generalize hc : ch n r.length = c at *
      have u1 : u * c ≤ (sh n (rows.take i)).2 * c := Nat.mul_le_mul_right c bu
      have hgu : Nat.gcd (x * c + u) (u * c) < 2 ^ 330 := Nat.lt_of_le_of_lt (Nat.le_trans g2 u1) sb2.2
      have W1 : CMulW (x : Int) (c : Int) := wide_mul (a := 330) (b := 41) (by rw [Int.natAbs_natCast]; exact Nat.lt_of_le_of_lt bx sb.1) (by rw [Int.natAbs_natCast]; exact cl) (by decide) (by decide) (by decide)
      have W2 : CMulW (u : Int) (c : Int) := wide_mul (a := 330) (b := 41) (by rw [Int.natAbs_natCast]; exact Nat.lt_of_le_of_lt bu sb.2) (by rw [Int.natAbs_natCast]; exact cl) (by decide) (by decide) (by decide)
      have e1 : (x : Int) * (c : Int) + (u : Int) = ((x * c + u : Nat) : Int) := by rw [Int.natCast_add, Int.natCast_mul]
      have e2 : (u : Int) * (c : Int) = ((u * c : Nat) : Int) := by rw [Int.natCast_mul]
      refine ⟨_, rfl, _, rfl, _, _, rfl, rfl, W1, _, rfl, _, _, rfl, rfl, ?_⟩
      refine ⟨_, rfl, _, rfl, _, _, rfl, rfl, W2, ?_⟩
      refine ⟨_, rfl, _, rfl, x * c + u, u * c, by show [V.int ((x : Int) * (c : Int) + (u : Int)), V.int ((u : Int) * (c : Int))] = _; rw [e1, e2], ?_⟩
      generalize hg : Nat.gcd (x * c + u) (u * c) = G at *
      have W3 : ∀ i : Int, CDivW i (G : Int) := fun i => wide_div (b := 330) (by omega) (by rw [Int.natAbs_natCast]; exact hgu) (by decide) (by decide)
      refine ⟨_, rfl, _, rfl, _, _, rfl, rfl, W3 _, ?_⟩
      refine ⟨_, rfl, _, rfl, _, _, rfl, rfl, W3 _, ?_⟩
      refine ⟨rfl, (x * c + u) / G, u * c / G, some (.ref b), some (.int (c : Int)), some (.int (G : Int)), sh2, ?_⟩
      have e3 : ((x : Int) * (c : Int) + (u : Int)) / (G : Int) = (((x * c + u) / G : Nat) : Int) := by rw [e1]; rfl
      have e4 : ((u : Int) * (c : Int)) / (G : Int) = ((u * c / G : Nat) : Int) := by rw [e2]; rfl
      rw [← e3, ← e4]
      rfl
    · rintro σ H' ⟨rfl, x, u, y, z, w, sh1, rfl⟩
      rw [List.length_map, las, List.take_length] at sh1
      refine ⟨_, rfl, _, rfl, sz_le (by show 2 ≤ _; omega), fun p np => ?_⟩
      exact gg _ p x u (s1.trans (same_new np)) (s1.free np) sh1 upd_same
/-! #### _law_cell_at -/
def cellI (ns : List Int) (k : Nat) : Int := ns.getD k 0
def spCellAt (K : PySem.W.Frag) : Sp := fun vs H Q _ => ∃ (a : Addr) (ns : List Int) (k : Nat), vs = [.ref a, .int (k : Int)] ∧ SqL K H a (ns.map V.int) ∧ Q (.int (cellI ns k)) H
theorem ok__law_cell_at (A : At K mg "_law_cell_at" s__law_cell_at) (B : Bt mg tM) :
    Def P w K mg base CX0 1 "_law_cell_at" ["script", "k"] (spCellAt K) := by
  obtain ⟨f, fd, F, gm⟩ := A
  refine ⟨⟨f, fd, F.ok sc__law_cell_at (fun vs H Q E h => ?_) (fun cdv A outer s H vs Q E hr h => ?_), gm, F.kp, F.binds fun _ _ _ _ _ _ us hl => match us, hl with | [_, _], _ => rfl⟩⟩
  · obtain ⟨a, ns, k, rfl, _⟩ := h
    rfl
  · obtain ⟨a, ns, k, rfl, hS, q⟩ := h
    refine ⟨_, (pss_cons (ps_if (pt_cmpR op_lt (pv 1) (pe_callB call_len_seq (by rfl) B.len (by decide +kernel) (pa_cons (pv 0) pa_nil)) (nomark _)) (pss_one (ps_ret (pe_ix ix_list (pv 0) (pv 1) (fun _ _ => rfl)))) pss_nil)
    (pss_one (ps_ret pe_int))), ?_⟩
    refine ⟨_, rfl, _, rfl, a, _, rfl, .inl hS, _, _, rfl, rfl, _, rfl, ite2 (fun h1 => ?_) (fun h1 => ?_)⟩
    · have h1 := of_decide_eq_true h1
      rw [List.length_map] at h1
      have hk : k < ns.length := by omega
      have e : ns[k]? = some (cellI ns k) := by
        unfold cellI
        rw [List.getD_eq_getElem?_getD, List.getElem?_eq_getElem hk]
        rfl
      exact ⟨_, rfl, _, rfl, a, _, _, _, rfl, rfl, hS, atI_int rfl e, q⟩
    · have h1 : ¬ _ := fun z => h1 (decide_eq_true z)
      rw [List.length_map] at h1
      have e : cellI ns k = 0 := by
        unfold cellI
        rw [List.getD_eq_getElem?_getD, List.getElem?_eq_none (by omega)]
        rfl
      rw [e] at q
      exact q
/-! #### _law_whole -/
def spWhole (K : PySem.W.Frag) : Sp := fun vs H Q _ => ∃ n : Int, vs = [.int n] ∧ Q (.bl true) H
theorem ok__law_whole (A : At K mg "_law_whole" s__law_whole) (B : Bt mg tM) :
    Def P w K mg base CX0 1 "_law_whole" ["found"] (spWhole K) := by
  obtain ⟨f, fd, F, gm⟩ := A
  refine ⟨⟨f, fd, F.ok sc__law_whole (fun vs H Q E h => ?_) (fun cdv A outer s H vs Q E hr h => ?_), gm, F.kp, F.binds fun _ _ _ _ _ _ us hl => match us, hl with | [_], _ => rfl⟩⟩
  · obtain ⟨n, rfl, _⟩ := h
    rfl
  · obtain ⟨n, rfl, q⟩ := h
    refine ⟨_, (pss_one (ps_ret (pe_and (pe_callB call_isi (by rfl) B.isinstance (by decide +kernel) (pa_cons (pv 0) (pa_cons (pe_bltn (v := .ty "int") (by rfl) B.int (by decide +kernel) rfl) pa_nil))) (pe_one (pe_not (pe_callB call_isi (by rfl) B.isinstance (by decide +kernel) (pa_cons (pv 0) (pa_cons (pe_bltn (v := .ty "bool") (by rfl) B.bool (by decide +kernel) rfl) pa_nil)))))))), ?_⟩
    refine ⟨_, rfl, _, _, _, _, _, rfl, .ty "int", .base (.int n), kit_ty (a := "int") (b := "int") (r := true) (by decide +kernel), true, rfl, iteT ?_⟩
    exact ⟨_, rfl, _, _, _, _, _, rfl, .ty "bool", .base (.int n), kit_ty (a := "int") (b := "bool") (r := false) (by decide +kernel), false, rfl, q⟩
/-! #### _law_size_by -/
def spSizeBy : Sp := fun vs H Q _ => ∃ c : Int, vs = [.int c] ∧ ∀ n : Nat, n ≤ 40 → Q (.int (n : Int)) H
theorem ok__law_size_by (A : At K mg "_law_size_by" s__law_size_by) (B : Bt mg tM) :
    Def P w K mg base CX0 1 "_law_size_by" ["cell"] spSizeBy := by
  obtain ⟨f, fd, F, gm⟩ := A
  refine ⟨⟨f, fd, F.ok sc__law_size_by (fun vs H Q E h => ?_) (fun cdv A outer s H vs Q E hr h => ?_), gm, F.kp, F.binds fun _ _ _ _ _ _ us hl => match us, hl with | [_], _ => rfl⟩⟩
  · obtain ⟨c, rfl, _⟩ := h
    rfl
  · obtain ⟨c, rfl, q⟩ := h
    refine ⟨_, (pss_cons (ps_if (pt_cmpR op_eq (pe_op op_mod (pe_op op_fdiv (pv 0) pe_int) pe_int) pe_int (nomark _)) (pss_one (ps_ret (pe_op op_mod (pe_op op_fdiv (pv 0) pe_int) pe_int))) pss_nil)
    (pss_one (ps_ret (pe_op op_mod (pv 0) pe_int)))), ?_⟩
    have q' : ∀ z : Int, 0 ≤ z → z ≤ 40 → Q (.int z) H := fun z h1 h2 => by
      have := q z.toNat (by omega)
      rw [show ((z.toNat : Nat) : Int) = z by omega] at this
      exact this
    refine ⟨_, rfl, _, _, rfl, rfl, ⟨by decide, by decide⟩, _, _, rfl, rfl, (by show (0 : Int) < 3; decide), rfl, _, rfl, ite2 (fun h1 => ?_) (fun h1 => ?_)⟩
    · exact ⟨_, rfl, _, _, rfl, rfl, ⟨by decide, by decide⟩, _, _, rfl, rfl, (by show (0 : Int) < _; decide), q' _ (by omega) (by omega)⟩
    · exact ⟨_, rfl, _, _, rfl, rfl, (by show (0 : Int) < 10; decide), q' _ (by omega) (by omega)⟩
/-! #### _law_set_by -/
def spSetBy (K : PySem.W.Frag) : Sp := fun vs H Q _ => ∃ (a : Addr) (ns : List Int) (k n : Nat), vs = [.ref a, .int (k : Int), .int (n : Int)] ∧ n ≤ 60 ∧ SqL K H a (ns.map V.int) ∧
  ∀ H' p ms, Same H H' → H p = none → IsSet n ms → H' p = some (.lst (ms.map V.int)) → Q (.ref p) H'
theorem ok__law_set_by (A : At K mg "_law_set_by" s__law_set_by) (B : Bt mg tM) (D__law_cell_at : Def P w K mg base CX0 1 "_law_cell_at" ["script", "k"] (spCellAt K)) :
    Def P w K mg base CX0 2 "_law_set_by" ["script", "at", "size"] (spSetBy K) := by
  obtain ⟨f, fd, F, gm⟩ := A
  obtain ⟨f__law_cell_at, fd__law_cell_at, G__law_cell_at, g__law_cell_at, k__law_cell_at, b__law_cell_at⟩ := D__law_cell_at.ex
  refine ⟨⟨f, fd, F.ok sc__law_set_by (fun vs H Q E h => ?_) (fun cdv A outer s H vs Q E hr h => ?_), gm, F.kp, F.binds fun _ _ _ _ _ _ us hl => match us, hl with | [_, _, _], _ => rfl⟩⟩
  · obtain ⟨a, ns, k, n, rfl, _⟩ := h
    rfl
  · obtain ⟨a, ns, k, n, rfl, hn, hS, q⟩ := h
    refine ⟨_, (pss_cons (ps_set (i := 3) sc__law_set_by.nd rfl (.inl rfl) (pe_call G__law_cell_at (hr.mono (by decide)) (by rfl) g__law_cell_at k__law_cell_at b__law_cell_at .nil pass0 (pa_cons (pv 0) (pa_cons (pv 1) pa_nil))))
    (pss_cons (ps_set (i := 4) sc__law_set_by.nd rfl (.inl rfl) (pe_call G__law_cell_at (hr.mono (by decide)) (by rfl) g__law_cell_at k__law_cell_at b__law_cell_at .nil pass0 (pa_cons (pv 0) (pa_cons (pe_op op_add (pv 1) pe_int) pa_nil))))
    (pss_cons (ps_set (i := 5) sc__law_set_by.nd rfl (.inl rfl) (pe_lst pa_nil))
    (pss_cons (ps_for PassesOwn.never rfl (pi_range1 (by rfl) B.range (pa_cons (pv 2) pa_nil)) (pg_name (i := 6) sc__law_set_by.nd rfl (.inl rfl)) (pss_cons (ps_if (pt_cmpR op_eq (pe_op op_mod (pv 3) pe_int) pe_int (nomark _)) (pss_one (ps_expr (pe_bm PySem.F.plainAttrs_list PySem.F.slot_list_append PySem.F.type_list_append mt_append (pv 5) (pa_cons (pv 6) pa_nil)))) pss_nil)
    (pss_one (ps_par (i := 3) (j := 4) (by rfl) sc__law_set_by.nd rfl rfl (by decide) rfl rfl (pa_cons (pv 4) (pa_cons (pe_op op_fdivN (pv 3) pe_int) pa_nil)) (by rfl)))))
    (pss_one (ps_ret (pv 5))))))), ?_⟩
    refine ⟨_, rfl, _, rfl, a, ns, k, rfl, hS, _, rfl, _, rfl, _, _, rfl, rfl, a, ns, k + 1, rfl, hS, sz_le (by show 0 ≤ _; omega), fun p np => ?_⟩
    refine ⟨_, rfl, (n : Int), rfl, by omega, by omega, ?_⟩
    refine for_range (lo := 0) (n := ((n : Int)).toNat) (fun i σ H' => Same H H' ∧ ∃ (ms : List Int) (u v : Int) (y : Option V), σ = [some (.ref a), some (.int (k : Int)), some (.int (n : Int)), some (.int u), some (.int v), some (.ref p), y] ∧ IsSet i ms ∧ H' p = some (.lst (ms.map V.int)))
      ⟨same_new np, [], _, _, none, rfl, isSet_nil 0, upd_same⟩ ?_ ?_
    · rintro i σ H1 hi ⟨s1, ms, u, v, y, rfl, hset, hp⟩
      have hl := hset.len
      refine ⟨_, rfl, _, _, rfl, rfl, (by show (0 : Int) < 2; decide), rfl, _, rfl, ite2 (fun _ => ?_) (fun _ => ?_)⟩
      · refine ⟨_, rfl, .inl ⟨rfl, _, SqL.of hp⟩, _, rfl, p, _, _, rfl, rfl, hp, sz_lt (by rw [List.length_map]; omega), ?_⟩
        refine ⟨_, rfl, _, rfl, _, _, rfl, rfl, ⟨by decide, by decide⟩, _, _, rfl, ?_⟩
        refine ⟨same_mut s1 np, ms ++ [(i : Int)], _, _, some (.int ((0 : Int) + (i : Int))), rfl, ⟨?_, ?_, ?_⟩, ?_⟩
        · refine List.pairwise_append.mpr ⟨hset.up, List.pairwise_singleton _ _, fun x hx z hz => ?_⟩
          rw [List.mem_singleton] at hz
          have := hset.hi x hx
          omega
        · intro x hx
          rcases List.mem_append.mp hx with hx | hx
          · exact hset.lo x hx
          · rw [List.mem_singleton] at hx
            omega
        · intro x hx
          rcases List.mem_append.mp hx with hx | hx
          · have := hset.hi x hx
            omega
          · rw [List.mem_singleton] at hx
            omega
        · rw [upd_same, List.map_append, Int.zero_add]
          rfl
      · refine ⟨_, rfl, _, rfl, _, _, rfl, rfl, ⟨by decide, by decide⟩, _, _, rfl, ?_⟩
        exact ⟨s1, ms, _, _, some (.int ((0 : Int) + (i : Int))), rfl, ⟨hset.up, hset.lo, fun x hx => by have := hset.hi x hx; omega⟩, hp⟩
    · rintro σ H1 ⟨s1, ms, u, v, y, rfl, hset, hp⟩
      exact ⟨_, rfl, q H1 p ms s1 np hset hp⟩
/-! #### _law_picked -/
def spPicked (K : PySem.W.Frag) : Sp := fun vs H Q _ => ∃ (a : Addr) (ns : List Int) (k0 n s : Nat), vs = [.ref a, .int (k0 : Int), .int (n : Int), .int (s : Int)] ∧ SqL K H a (ns.map V.int) ∧ n ≤ 60 ∧ s ≤ n ∧
  ∀ H' p ms, Same H H' → H p = none → IsSet n ms → ms.length = s → H' p = some (.lst (ms.map V.int)) → Q (.ref p) H'
theorem picked_set {n s : Nat} {ps : List (Int × Int)} (h : seconds ps = irange n) (hs : s ≤ n) : IsSet n (isort (seconds ((psort ps).take s))) ∧ (isort (seconds ((psort ps).take s))).length = s := by
  have pp : (seconds (psort ps)).Perm (irange n) := by
    rw [← h]
    exact (sortB_perm leP ps).map _
  have e : seconds ((psort ps).take s) = (seconds (psort ps)).take s := List.map_take
  have nd : (seconds (psort ps)).Nodup := pp.nodup_iff.mpr (up_nodup (irange_up n))
  have mm : ∀ x, x ∈ isort (seconds ((psort ps).take s)) → x ∈ irange n := fun x hx => by
    have h1 := isort_mem.mp hx
    rw [e] at h1
    exact pp.mem_iff.mp (List.mem_of_mem_take h1)
  refine ⟨⟨isort_up ?_, fun x hx => (mem_irange.mp (mm x hx)).1, fun x hx => (mem_irange.mp (mm x hx)).2⟩, ?_⟩
  · rw [e]
    exact nd.sublist (List.take_sublist _ _)
  · rw [isort_len, e, List.length_take, pp.length_eq, irange_len]
    omega
theorem ok__law_picked (A : At K mg "_law_picked" s__law_picked) (B : Bt mg tM) (D__law_cell_at : Def P w K mg base CX0 1 "_law_cell_at" ["script", "k"] (spCellAt K)) :
    Def P w K mg base CX0 2 "_law_picked" ["script", "first", "size", "some"] (spPicked K) := by
  obtain ⟨f, fd, F, gm⟩ := A
  obtain ⟨f__law_cell_at, fd__law_cell_at, G__law_cell_at, g__law_cell_at, k__law_cell_at, b__law_cell_at⟩ := D__law_cell_at.ex
  refine ⟨⟨f, fd, F.ok sc__law_picked (fun vs H Q E h => ?_) (fun cdv A outer s H vs Q E hr h => ?_), gm, F.kp, F.binds fun _ _ _ _ _ _ us hl => match us, hl with | [_, _, _, _], _ => rfl⟩⟩
  · obtain ⟨a, ns, k0, n, s, rfl, _⟩ := h
    rfl
  · obtain ⟨a, ns, k0, n, s, rfl, hS, hn, hs, q⟩ := h
    refine ⟨_, (pss_cons (ps_set (i := 4) sc__law_picked.nd rfl (.inl rfl) (pe_callB cr_sortedQ (by rfl) B.sorted (by decide +kernel) (pa_cons (pe_lc (own := [("k", 5)]) (g := gName 5) (by rfl) sc__law_picked.nd (pi_range1 (by rfl) B.range (pa_cons (pv 2) pa_nil)) (blkOk_by (N := ["script", "first", "size", "some", "order", "k", "number"]) (sc := defScope s__law_picked) (by decide +kernel)) (fun _ _ _ _ _ => (pg_name (i := 5) sc__law_picked.nd rfl (.inl rfl))) (fun _ _ _ _ _ => pts_nil) (fun _ _ _ _ _ => (pe_tup (pa_cons (pe_op op_mod (pe_op op_mul (pe_call G__law_cell_at (hr.mono (by decide)) (by rfl) g__law_cell_at k__law_cell_at b__law_cell_at .nil pass0 (pa_cons (pv 0) (pa_cons (pe_op op_add (pv 1) (pv 5)) pa_nil))) (pe_op op_add (pe_op op_mul pe_int (pv 5)) pe_int)) pe_int) (pa_cons (pv 5) pa_nil))))) pa_nil)))
    (pss_one (ps_ret (pe_callB cr_sortedJ (by rfl) B.sorted (by decide +kernel) (pa_cons (pe_lc (own := [("number", 6), ("k", 5)]) (g := gTup K 2 (gCons (gName 6) (gCons (gName 5) gNil))) (by rfl) sc__law_picked.nd (pi_list (pe_slice sl_list (pv 4) po_none (po_some (pv 3)))) (blkOk_by (N := ["script", "first", "size", "some", "order", "k", "number"]) (sc := defScope s__law_picked) (by decide +kernel)) (fun _ _ _ _ _ => (pg_tupK K (by rfl) (pgs_cons (pg_name (i := 6) sc__law_picked.nd rfl (.inl rfl)) (pgs_cons (pg_name (i := 5) sc__law_picked.nd rfl (.inl rfl)) pgs_nil)))) (fun _ _ _ _ _ => pts_nil) (fun _ _ _ _ _ => (pv 5))) pa_nil))))), ?_⟩
    refine ⟨_, rfl, (n : Int), rfl, by omega, by omega, fun D nD => ?_⟩
    refine lc_range (lo := 0) (n := ((n : Int)).toNat) (fun j H' => Same H H' ∧ ∃ ts ps, H' D = some (.lst (ts.map V.ref)) ∧ Tups H' ts ps ∧ seconds ps = irange j) ⟨same_new nD, [], [], by rw [upd_same]; rfl, .nil, rfl⟩ ?_ ?_
    · rintro j H1 hj ⟨s1, ts, ps, hD, ht, e⟩
      have hj' : j < n := by omega
      refine ⟨rfl, ?_⟩
      refine tyes ?_
      refine iteT ?_
      have e1 : ((k0 : Int) + ((0 : Int) + (j : Int))) = ((k0 + j : Nat) : Int) := by omega
      refine ⟨_, rfl, _, rfl, _, rfl, _, _, rfl, rfl, a, ns, k0 + j, by show [V.ref a, V.int ((k0 : Int) + ((0 : Int) + (j : Int)))] = _; rw [e1], s1.seq hS, _, rfl, _, _, rfl, rfl, .inl ⟨by decide, by decide⟩, _, _, rfl, rfl, _, _, rfl, rfl, .inr ⟨by omega, by omega⟩, _, _, rfl, rfl, (by show (0 : Int) < 1009; decide), _, rfl, sz_le (by show 2 ≤ _; omega), fun T nT => ?_⟩
      have DT : D ≠ T := ne_of_none hD nT
      have hD2 : ∀ o, (upd H1 T o) D = some (.lst (ts.map V.ref)) := fun o => by rw [upd_ne DT]; exact hD
      have lp : ps.length = j := by
        have := congrArg List.length e
        rw [irange_len] at this
        rw [← this]
        exact (List.length_map _).symm
      refine ⟨_, hD2 _, sz_lt (by rw [List.length_map, ht.len]; omega), same_mut (s1.trans (same_new nT)) nD, ts ++ [T], ps ++ [(cellI ns (k0 + j) * (2 * ((0 : Int) + (j : Int)) + 3) % 1009, (j : Int))], ?_, ?_, ?_⟩
      · rw [upd_same, List.map_append]
        rfl
      · refine Tups.upd (xs := ts.map V.ref) (Tups.snoc (ht.same (same_new nT)) ?_) (hD2 _)
        rw [upd_same, Int.zero_add]
      · rw [seconds_snoc, e, irange_succ]
    · rintro H1 ⟨s1, ts, ps, hD, ht, e⟩
      rw [show ((n : Int)).toNat = n from rfl] at e
      refine ⟨D, ts, ps, rfl, SqL.of hD, ht, fun o ts' no ht' => ?_⟩
      have s2 : Same H1 (upd H1 o (.lst (ts'.map V.ref))) := same_new no
      have ho : (upd H1 o (.lst (ts'.map V.ref))) o = some (.lst (ts'.map V.ref)) := upd_same
      have ht2 := ht'.same s2
      generalize upd H1 o (.lst (ts'.map V.ref)) = H2 at *
      obtain ⟨is, il⟩ := picked_set e hs
      -- order[:some]
      refine ⟨_, rfl, _, rfl, (s : Int), rfl, o, _, rfl, SqL.of ho, fun c nc => ?_⟩
      rw [cut_take, ← List.map_take]
      have s3 : Same H2 (upd H2 c (.lst ((ts'.take s).map V.ref))) := same_new nc
      have hc : (upd H2 c (.lst ((ts'.take s).map V.ref))) c = some (.lst ((ts'.take s).map V.ref)) := upd_same
      have ht3 := (ht2.take s).same s3
      generalize upd H2 c (.lst ((ts'.take s).map V.ref)) = H3 at *
      refine ⟨c, rfl, ⟨_, SqL.of hc⟩, fun D2 nD2 => ?_⟩
      have cD2 : c ≠ D2 := ne_of_none hc nD2
      refine lc_list (K := K) (a := c) (xs := (ts'.take s).map V.ref) (fun j H' => H' = upd H3 D2 (.lst ((seconds (((psort ps).take s).take j)).map V.int))) rfl (fun j H' _ e => by rw [e]; exact (same_new nD2).seq (SqL.of hc)) ?_ ?_
      · rintro j x H4 hj rfl
        have jl : j < ((psort ps).take s).length := by
          have := (List.getElem?_eq_some_iff.mp hj).1
          rw [List.length_map, ht3.len] at this
          exact this
        obtain ⟨t, et, eT⟩ := ht3.get (List.getElem?_eq_getElem jl)
        have ex : x = .ref t := by
          rw [List.getElem?_map, et] at hj
          exact (Option.some.inj hj).symm
        subst ex
        have eq : ((psort ps).take s)[j]? = some ((psort ps).take s)[j] := List.getElem?_eq_getElem jl
        generalize ((psort ps).take s)[j] = qq at *
        refine ⟨t, _, rfl, SqT.of (by rw [upd_ne (ne_of_none eT nD2)]; exact eT), rfl, _, _, rfl, _, _, rfl, rfl, rfl, ?_⟩
        refine tyes ?_
        refine iteT ?_
        refine ⟨_, rfl, _, upd_same, sz_lt ?_, ?_⟩
        · unfold seconds
          rw [List.length_map, List.length_map, List.length_take]
          have : ((psort ps).take s).length ≤ s := by rw [List.length_take]; omega
          omega
        · rw [upd_upd, take_snoc eq, seconds_snoc, List.map_append]
          rfl
      · rintro H4 rfl
        rw [List.length_map, ht3.len, List.take_length]
        refine ⟨D2, _, rfl, SqL.of upd_same, fun p np => ?_⟩
        exact q _ p _ ((((s1.trans s2).trans s3).trans (same_new nD2)).trans (same_new np)) ((((s1.trans s2).trans s3).trans (same_new (o := .lst ((seconds ((psort ps).take s)).map V.int)) nD2)).free np) is il upd_same
/-! #### _law_family_by -/
structure FamBy (n : Nat) (H H' : Hp) (p : Addr) (as : List Addr) (rows : List (List Int)) : Prop where
  same : Same H H'
  lst : H' p = some (.lst (as.map V.ref))
  rws : Rows H' as rows
  len : rows.length ≤ 8
  sets : ∀ r ∈ rows, IsSet n r
  nd : rows.Nodup
def spFamBy (K : PySem.W.Frag) : Sp := fun vs H Q _ => ∃ (a : Addr) (ns : List Int) (n : Nat), vs = [.ref a, .int (n : Int)] ∧ SqL K H a (ns.map V.int) ∧ n ≤ 60 ∧ ∀ H' p as rows, FamBy n H H' p as rows → Q (.ref p) H'
theorem ok__law_family_by (A : At K mg "_law_family_by" s__law_family_by) (B : Bt mg tM) (D__law_set_by : Def P w K mg base CX0 2 "_law_set_by" ["script", "at", "size"] (spSetBy K)) (D__law_cell_at : Def P w K mg base CX0 1 "_law_cell_at" ["script", "k"] (spCellAt K)) (D__law_picked : Def P w K mg base CX0 2 "_law_picked" ["script", "first", "size", "some"] (spPicked K)) :
    Def P w K mg base CX0 3 "_law_family_by" ["script", "size"] (spFamBy K) := by
  obtain ⟨f, fd, F, gm⟩ := A
  obtain ⟨f__law_set_by, fd__law_set_by, G__law_set_by, g__law_set_by, k__law_set_by, b__law_set_by⟩ := D__law_set_by.ex
  obtain ⟨f__law_cell_at, fd__law_cell_at, G__law_cell_at, g__law_cell_at, k__law_cell_at, b__law_cell_at⟩ := D__law_cell_at.ex
  obtain ⟨f__law_picked, fd__law_picked, G__law_picked, g__law_picked, k__law_picked, b__law_picked⟩ := D__law_picked.ex
  refine ⟨⟨f, fd, F.ok sc__law_family_by (fun vs H Q E h => ?_) (fun cdv A outer s H vs Q E hr h => ?_), gm, F.kp, F.binds fun _ _ _ _ _ _ us hl => match us, hl with | [_, _], _ => rfl⟩⟩
  · obtain ⟨a, ns, n, rfl, _⟩ := h
    rfl
  · obtain ⟨a, ns, n, rfl, hS, hn, q⟩ := h
    refine ⟨_, (pss_cons (ps_set (i := 2) sc__law_family_by.nd rfl (.inl rfl) (pe_lst pa_nil))
    (pss_cons (ps_for PassesOwn.never rfl (pi_range1 (by rfl) B.range (pa_cons (pe_op op_mod (pe_call G__law_cell_at (hr.mono (by decide)) (by rfl) g__law_cell_at k__law_cell_at b__law_cell_at .nil pass0 (pa_cons (pv 0) (pa_cons pe_int pa_nil))) pe_int) pa_nil)) (pg_name (i := 3) sc__law_family_by.nd rfl (.inl rfl)) (pss_cons (ps_set (i := 4) sc__law_family_by.nd rfl (.inl rfl) (pe_call G__law_set_by (hr.mono (by decide)) (by rfl) g__law_set_by k__law_set_by b__law_set_by .nil pass0 (pa_cons (pv 0) (pa_cons (pe_op op_add pe_int (pe_op op_mul pe_int (pv 3))) (pa_cons (pv 1) pa_nil)))))
    (Evl.pss_cut (ps_if (pt_cmpR op_eq (pe_op op_mod (pe_call G__law_cell_at (hr.mono (by decide)) (by rfl) g__law_cell_at k__law_cell_at b__law_cell_at .nil pass0 (pa_cons (pv 0) (pa_cons pe_int pa_nil))) pe_int) pe_int (nomark _)) (pss_one (ps_set (i := 4) sc__law_family_by.nd rfl (.inl rfl) (pe_call G__law_picked (hr.mono (by decide)) (by rfl) g__law_picked k__law_picked b__law_picked .nil pass0 (pa_cons (pv 0) (pa_cons (pe_op op_add pe_int (pv 3)) (pa_cons (pv 1) (pa_cons (pe_op op_fdiv (pv 1) pe_int) pa_nil))))))) pss_nil)
    (pss_one (ps_if (pt_cmpR (op_notInD (inD_u hr)) (pv 4) (pv 2) (by rfl)) (pss_one (ps_expr (pe_bm PySem.F.plainAttrs_list PySem.F.slot_list_append PySem.F.type_list_append mt_append (pv 2) (pa_cons (pv 4) pa_nil)))) pss_nil)))))
    (pss_one (ps_ret (pv 2))))), ?_⟩
    refine ⟨sz_le (by show 0 ≤ _; omega), fun p np => ?_⟩
    have s0 : Same H (upd H p (.lst [])) := same_new np
    refine ⟨_, rfl, a, ns, 2, rfl, s0.seq hS, _, _, rfl, rfl, (by show (0 : Int) < 9; decide), cellI ns 2 % 9, rfl, by omega, by omega, ?_⟩
    refine for_range (lo := 0) (n := (cellI ns 2 % 9).toNat) (fun i σ H' => Same H H' ∧ ∃ (as : List Addr) (rows : List (List Int)) (y z : Option V), σ = [some (.ref a), some (.int (n : Int)), some (.ref p), y, z] ∧ H' p = some (.lst (as.map V.ref)) ∧ p ∉ as ∧ Rows H' as rows ∧ rows.length ≤ i ∧ (∀ r ∈ rows, IsSet n r) ∧ rows.Nodup)
      ⟨s0, [], [], none, none, rfl, upd_same, by simp, .nil, Nat.le_refl _, (fun _ h => nomatch h), List.nodup_nil⟩ ?_ ?_
    · rintro i σ H1 hi ⟨s1, as, rows, y, z, rfl, hp, pas, hr0, hlen, hsets, nd⟩
      have hi' : i < 9 := by omega
      have e1 : ((4 : Int) + 2 * ((0 : Int) + (i : Int))) = ((4 + 2 * i : Nat) : Int) := by omega
      have e2 : ((4 : Int) + ((0 : Int) + (i : Int))) = ((4 + i : Nat) : Int) := by omega
      have e3 : ((n : Int) / 2) = ((n / 2 : Nat) : Int) := by omega
      refine ⟨_, rfl, _, rfl, _, _, rfl, rfl, .inl ⟨by decide, by decide⟩, _, _, rfl, rfl, _, rfl, a, ns, 4 + 2 * i, n, by show [V.ref a, V.int ((4 : Int) + 2 * ((0 : Int) + (i : Int))), V.int (n : Int)] = _; rw [e1], by omega, s1.seq hS, fun H2 b ms s2 nb hms hb => ?_⟩
      have s12 := s1.trans s2
      have hp2 := s2 _ _ hp
      have hr2 := hr0.same s2
      refine ⟨fun σ' H' => ∃ (b : Addr) (ms : List Int), Same H H' ∧ σ' = [some (.ref a), some (.int (n : Int)), some (.ref p), some (.int ((0 : Int) + (i : Int))), some (.ref b)] ∧ H' p = some (.lst (as.map V.ref)) ∧ Rows H' as rows ∧ IsSet n ms ∧ H' b = some (.lst (ms.map V.int)) ∧ p ≠ b, ?_, ?_⟩
      · refine ⟨_, rfl, a, ns, 3, rfl, s12.seq hS, _, _, rfl, rfl, (by show (0 : Int) < 2; decide), rfl, _, rfl, ite2 (fun _ => ?_) (fun _ => ?_)⟩
        · refine ⟨_, rfl, _, rfl, _, _, rfl, rfl, _, rfl, _, rfl, _, _, rfl, rfl, ⟨by decide, by decide⟩, a, ns, 4 + i, n, n / 2, by show [V.ref a, V.int ((4 : Int) + ((0 : Int) + (i : Int))), V.int (n : Int), V.int ((n : Int) / 2)] = _; rw [e2, e3], s12.seq hS, hn, by omega, fun H3 c ks s3 nc hks _ hc => ?_⟩
          exact ⟨c, ks, s12.trans s3, rfl, s3 _ _ hp2, hr2.same s3, hks, hc, ne_of_none hp2 nc⟩
        · exact ⟨b, ms, s12, rfl, hp2, hr2, hms, hb, ne_of_none hp nb⟩
      · rintro σ' H' ⟨b, ms, s3, rfl, hp3, hr3, hms, hb3, pb⟩
        refine ⟨_, rfl, _, rfl, dI ms, rows.map dI, dp_I (SqL.of hb3), dp_L (SqL.of hp3) hr3, dI_shaped _, dL_shaped _, _, rfl, ?_⟩
        rw [dL_any]
        by_cases hd : ms ∈ rows
        · rw [decide_eq_true hd]
          exact iteF ⟨s3, as, rows, _, _, rfl, hp3, pas, hr3, by omega, hsets, nd⟩
        · rw [decide_eq_false hd]
          refine iteT ?_
          refine ⟨_, rfl, .inl ⟨rfl, _, SqL.of hp3⟩, _, rfl, p, _, _, rfl, rfl, hp3, sz_lt (by rw [List.length_map, hr3.len]; omega), ?_⟩
          refine ⟨same_mut s3 np, as ++ [b], rows ++ [ms], _, _, rfl, ?_, ?_, ?_, ?_, ?_, ?_⟩
          · rw [upd_same, List.map_append]
            rfl
          · intro hx
            rcases List.mem_append.mp hx with hx | hx
            · exact pas hx
            · exact pb (List.mem_singleton.mp hx)
          · refine Rows.snoc (hr3.upd pas) ?_
            rw [upd_ne pb.symm]
            exact hb3
          · rw [List.length_append, List.length_singleton]
            omega
          · intro r hx
            rcases List.mem_append.mp hx with hx | hx
            · exact hsets r hx
            · rw [List.mem_singleton.mp hx]
              exact hms
          · refine List.nodup_append.mpr ⟨nd, by simp, fun x hx y hy e => ?_⟩
            rw [List.mem_singleton] at hy
            subst hy e
            exact hd hx
    · rintro σ H1 ⟨s1, as, rows, y, z, rfl, hp, pas, hr0, hlen, hsets, nd⟩
      exact ⟨_, rfl, q H1 p as rows ⟨s1, hp, hr0, by omega, hsets, nd⟩⟩
/-! #### _law_clash -/
/-- what a clash is told as -/
def DueAt (H : Hp) (rows : List (List Int)) (v : V) : Prop := (v = .non ∧ NoHit rows) ∨ ∃ (t : Addr) (k j : Nat), v = .ref t ∧ First rows k j ∧ H t = some (.tup [.int (k : Int), .int (j : Int)])
theorem DueAt.same {H H' : Hp} {rows : List (List Int)} {v : V} (h : DueAt H rows v) (s : Same H H') : DueAt H' rows v := by
  rcases h with h | ⟨t, k, j, h1, h2, h3⟩
  · exact .inl h
  · exact .inr ⟨t, k, j, h1, h2, s _ _ h3⟩
def spLClash (K : PySem.W.Frag) : Sp := fun vs H Q _ => ∃ (a : Addr) (as : List Addr) (rows : List (List Int)), vs = [.ref a] ∧ SqL K H a (as.map V.ref) ∧ Rows H as rows ∧ rows.length ≤ 1000 ∧ (∀ r ∈ rows, r.length ≤ 1000) ∧
  ∀ H' v, Same H H' → DueAt H' rows v → Q v H'
theorem ok__law_clash (A : At K mg "_law_clash" s__law_clash) (B : Bt mg tM) :
    Def P w K mg base CX0 1 "_law_clash" ["family"] (spLClash K) := by
  obtain ⟨f, fd, F, gm⟩ := A
  refine ⟨⟨f, fd, F.ok sc__law_clash (fun vs H Q E h => ?_) (fun cdv A outer s H vs Q E hr h => ?_), gm, F.kp, F.binds fun _ _ _ _ _ _ us hl => match us, hl with | [_], _ => rfl⟩⟩
  · obtain ⟨a, as, rows, rfl, _⟩ := h
    rfl
  · obtain ⟨a, as, rows, rfl, hS, hr0, hlen, hlr, q⟩ := h
    refine ⟨_, (pss_cons (ps_for PassesOwn.never rfl (pi_range1 (by rfl) B.range (pa_cons (pe_callB call_len_seq (by rfl) B.len (by decide +kernel) (pa_cons (pv 0) pa_nil)) pa_nil)) (pg_name (i := 1) sc__law_clash.nd rfl (.inl rfl)) (pss_one (ps_for PassesOwn.never rfl (pi_range1 (by rfl) B.range (pa_cons (pe_callB call_len_seq (by rfl) B.len (by decide +kernel) (pa_cons (pv 0) pa_nil)) pa_nil)) (pg_name (i := 2) sc__law_clash.nd rfl (.inr rfl)) (pss_one (ps_if (PW.pt (pw_and (pt_cmpR op_ne (pv 1) (pv 2) (nomark _)) (pw_and1 (pt_val (pe_callB (cr_all rfl) (by rfl) B.all (by decide +kernel) (pa_cons (pe_lc (own := [("thing", 3)]) (g := gName 3) (by rfl) sc__law_clash.nd (pi_list (pe_ix ix_list (pv 0) (pv 1) (fun _ _ => rfl))) (blkOk_by (N := ["family", "k", "j", "thing"]) (sc := defScope s__law_clash) (by decide +kernel)) (fun _ _ _ _ _ => (pg_name (i := 3) sc__law_clash.nd rfl (.inl rfl))) (fun _ _ _ _ _ => pts_nil) (fun _ _ _ _ _ => (pe_cmpR (op_in_seqK K) (pv 3) (pe_ix (ix_listK K) (pv 0) (pv 2) (fun _ _ => rfl)) (by rfl)))) pa_nil)))))) (pss_one (ps_ret (pe_tup (pa_cons (pv 1) (pa_cons (pv 2) pa_nil))))) pss_nil)))))
    (pss_one (ps_ret pe_non))), ?_⟩
    have las := hr0.len
    have en : (((as.map V.ref).length : Nat) : Int).toNat = rows.length := by rw [List.length_map, las]; rfl
    refine ⟨_, rfl, a, _, rfl, .inl hS, _, rfl, by omega, by rw [List.length_map]; omega, ?_⟩
    refine for_range (lo := 0) (n := (((as.map V.ref).length : Nat) : Int).toNat) (fun i σ H' => Same H H' ∧ (∀ k j, k < i → j < rows.length → hit rows k j = false) ∧ ∃ y z, σ = [some (.ref a), y, z, none]) ⟨Same.refl _, fun k j hk => absurd hk (by omega), none, none, rfl⟩ ?_ ?_
    · rintro i σ H2 hi ⟨s2, h2, y, z, rfl⟩
      rw [en] at hi
      have gi : rows[i]? = some rows[i] := List.getElem?_eq_getElem hi
      refine ⟨_, rfl, a, _, rfl, .inl (s2.seq hS), _, rfl, by omega, by rw [List.length_map]; omega, ?_⟩
      refine for_range (lo := 0) (n := (((as.map V.ref).length : Nat) : Int).toNat) (fun j σ H' => Same H H' ∧ (∀ j', j' < j → hit rows i j' = false) ∧ ∃ z, σ = [some (.ref a), some (.int ((0 : Int) + (i : Int))), z, none]) ⟨s2, fun j hj => absurd hj (by omega), z, rfl⟩ ?_ ?_
      · rintro j σ H3 hj ⟨s3, h3, z, rfl⟩
        rw [en] at hj
        have gj : rows[j]? = some rows[j] := List.getElem?_eq_getElem hj
        have hr3 := hr0.same s3
        obtain ⟨b, eb, hb⟩ := hr3.get gi
        obtain ⟨c, ec, hc⟩ := hr3.get gj
        have li := hlr _ (List.getElem_mem hi)
        have hh := hit_of gi gj
        generalize rows[i] = r at *
        generalize rows[j] = t at *
        have ei : ((0 : Int) + (i : Int)) = (i : Int) := Int.zero_add _
        have ej : ((0 : Int) + (j : Int)) = (j : Int) := Int.zero_add _
        have ab : atI (as.map V.ref) ((0 : Int) + (i : Int)) = some (.ref b) := by
          rw [ei]
          exact atI_nat (by rw [List.getElem?_map, eb]; rfl)
        have ac : atI (as.map V.ref) ((0 : Int) + (j : Int)) = some (.ref c) := by
          rw [ej]
          exact atI_nat (by rw [List.getElem?_map, ec]; rfl)
        have nextj : ∀ H4, Same H H4 → hit rows i j = false → Same H H4 ∧ (∀ j', j' < j + 1 → hit rows i j' = false) ∧ ∃ z, ([some (V.ref a), some (V.int ((0 : Int) + (i : Int))), some (V.int ((0 : Int) + (j : Int))), none] : L2.St) = [some (.ref a), some (.int ((0 : Int) + (i : Int))), z, none] := fun H4 s4 hf => by
          refine ⟨s4, fun j' hj' => ?_, _, rfl⟩
          by_cases ejj : j' = j
          · rw [ejj]; exact hf
          · exact h3 j' (by omega)
        refine ⟨_, rfl, _, rfl, rfl, _, rfl, ?_⟩
        by_cases eij : i = j
        · subst eij
          rw [decide_eq_true rfl]
          refine iteF (iteF (nextj _ s3 ?_))
          rw [hh]
          simp
        · rw [decide_eq_false (show ¬ V.int ((0 : Int) + (i : Int)) = V.int ((0 : Int) + (j : Int)) from fun w => by have := V.int.inj w; omega)]
          refine iteT ?_
          have hb' : hit rows i j = subL r t := by
            rw [hh]
            have : (i != j) = true := by simpa using eij
            rw [this, Bool.true_and]
          refine ⟨_, rfl, _, rfl, a, _, _, _, rfl, rfl, s3.seq hS, ab, b, rfl, ⟨_, SqL.of hb⟩, fun D nD => ?_⟩
          have s1 : ∀ o, Same H3 (upd H3 D o) := fun o => same_new nD
          refine lc_list (K := K) (a := b) (xs := r.map V.int) (fun i H' => H' = upd H3 D (.lst (((r.take i).map fun x => t.contains x).map V.bl))) rfl (fun i H' _ e => by rw [e]; exact SqL.of (s1 _ _ _ hb)) ?_ ?_
          · rintro l x H' hl rfl
            obtain ⟨v, hv, rfl⟩ := at_map hl
            have il := (List.getElem?_eq_some_iff.mp hl).1
            rw [List.length_map] at il
            refine ⟨rfl, ?_⟩
            refine tyes ?_
            refine iteT ?_
            refine ⟨_, rfl, _, rfl, _, rfl, a, _, _, _, rfl, rfl, (s3.trans (s1 _)).seq hS, ac, c, _, rfl, .inl (SqL.of (s1 _ _ _ hc)), rfl, flat_ints t, ?_⟩
            show ∃ acc, _ = some (HO.lst acc) ∧ acc.length < sizeLine ∧ upd _ D (.lst (acc ++ [V.bl (if false = true then _ else inV (V.int v) (t.map V.int))])) = _
            rw [if_neg Bool.false_ne_true, inV_ints]
            refine ⟨_, upd_same, sz_lt (by rw [List.length_map, List.length_map, List.length_take]; omega), ?_⟩
            rw [upd_upd, take_snoc hv, List.map_append, List.map_append]
            rfl
          · rintro H' rfl
            rw [List.length_map, List.take_length]
            refine ⟨D, r.map fun x => t.contains x, rfl, SqL.of upd_same, ?_⟩
            have e : ((r.map fun x => t.contains x).all id) = subL r t := by
              unfold subL
              rw [List.all_map]
              rfl
            rw [e]
            have s4 := s3.trans (s1 (.lst ((r.map fun x => t.contains x).map V.bl)))
            generalize upd H3 D (.lst ((r.map fun x => t.contains x).map V.bl)) = H4 at *
            refine ⟨_, rfl, ?_⟩
            cases hs : subL r t with
            | false => exact iteF (nextj _ s4 (by rw [hb', hs]))
            | true =>
              refine iteT ?_
              refine ⟨_, rfl, _, rfl, sz_le (by show 2 ≤ _; omega), fun p np => ?_⟩
              refine q _ _ (s4.trans (same_new np)) (.inr ⟨p, i, j, rfl, ⟨hi, hj, by rw [hb', hs], h2, h3⟩, ?_⟩)
              rw [upd_same, ei, ej]
      · rintro σ H3 ⟨s3, h3, z, rfl⟩
        rw [en] at h3
        refine ⟨s3, fun k j hk hj => ?_, _, _, rfl⟩
        by_cases e : k = i
        · rw [e]; exact h3 j hj
        · exact h2 k j (by omega) hj
    · rintro σ H2 ⟨s2, h2, y, z, rfl⟩
      rw [en] at h2
      exact q _ _ s2 (.inl ⟨rfl, fun k j hk hj => h2 k j hk hj⟩)
/-! #### _law_picks -/
def spLPicks : Sp := fun vs H Q _ => ∃ n k : Nat, vs = [.int (n : Int), .int (k : Int)] ∧ n ≤ 60 ∧ k ≤ n ∧ ∀ H', Same H H' → Q (.int (ch n k : Int)) H'
theorem ok__law_picks (A : At K mg "_law_picks" s__law_picks) (B : Bt mg tM) :
    Def P w K mg base CX0 1 "_law_picks" ["total", "some"] spLPicks := by
  obtain ⟨f, fd, F, gm⟩ := A
  refine ⟨⟨f, fd, F.ok sc__law_picks (fun vs H Q E h => ?_) (fun cdv A outer s H vs Q E hr h => ?_), gm, F.kp, F.binds fun _ _ _ _ _ _ us hl => match us, hl with | [_, _], _ => rfl⟩⟩
  · obtain ⟨n, k, rfl, _⟩ := h
    rfl
  · obtain ⟨n, k, rfl, hn, hk, q⟩ := h
    refine ⟨_, (pss_cons (ps_set (i := 2) sc__law_picks.nd rfl (.inr rfl) (pe_lst (pa_cons pe_int pa_nil)))
    (pss_cons (ps_for PassesOwn.never rfl (pi_range1 (by rfl) B.range (pa_cons (pv 0) pa_nil)) (pg_name (i := 3) sc__law_picks.nd rfl (.inl rfl)) (pss_one (ps_set (i := 2) sc__law_picks.nd rfl (.inr rfl) (pe_op op_cat (pe_op op_cat (pe_lst (pa_cons pe_int pa_nil)) (pe_lc (own := [("j", 4)]) (g := gName 4) (by rfl) sc__law_picks.nd (pi_range1 (by rfl) B.range (pa_cons (pv 3) pa_nil)) (blkOk_by (N := ["total", "some", "row", "k", "j"]) (sc := defScope s__law_picks) (by decide +kernel)) (fun _ _ _ _ _ => (pg_name (i := 4) sc__law_picks.nd rfl (.inl rfl))) (fun _ _ _ _ _ => pts_nil) (fun _ _ _ _ _ => (pe_op op_add (pe_ix (ix_listK K) (pv 2) (pv 4) (fun _ _ => rfl)) (pe_ix (ix_listK K) (pv 2) (pe_op op_add (pv 4) pe_int) (fun _ _ => rfl)))))) (pe_lst (pa_cons pe_int pa_nil))))))
    (pss_one (ps_ret (pe_ix ix_list (pv 2) (pv 1) (fun _ _ => rfl)))))), ?_⟩
    refine ⟨sz_le (by show 1 ≤ _; omega), fun a0 n0 => ?_⟩
    refine ⟨_, rfl, (n : Int), rfl, by omega, by omega, ?_⟩
    refine for_range (lo := 0) (n := ((n : Int)).toNat) (fun i σ H' => Same H H' ∧ ∃ a y, H' a = some (.lst ((prow i).map V.int)) ∧ σ = [some (.int (n : Int)), some (.int (k : Int)), some (.ref a), y, none]) ⟨same_new n0, a0, none, upd_same, rfl⟩ ?_ ?_
    · rintro i σ H1 hi ⟨s1, a, y, ea, rfl⟩
      have hi' : i < n := by omega
      refine ⟨sz_le (by show 1 ≤ _; omega), fun l nl => ?_⟩
      have s2 := s1.trans (same_new (o := .lst [.int 1]) nl)
      have al : a ≠ l := ne_of_none ea nl
      refine ⟨_, rfl, (0 : Int) + (i : Int), rfl, by omega, by omega, fun D nD => ?_⟩
      have aD : a ≠ D := ne_of_none (by rw [upd_ne al]; exact ea) nD
      have lD : l ≠ D := ne_of_none upd_same nD
      refine lc_range (lo := 0) (n := ((0 : Int) + (i : Int)).toNat) (fun j H' => H' = upd (upd H1 l (.lst [.int 1])) D (.lst (((List.range j).map fun j => (ch i j : Int) + (ch i (j + 1) : Int)).map V.int))) rfl ?_ ?_
      · rintro j H' hj rfl
        have hj' : j < i := by omega
        have ea' : (upd (upd H1 l (.lst [.int 1])) D (.lst (((List.range j).map fun j => (ch i j : Int) + (ch i (j + 1) : Int)).map V.int))) a = some (.lst ((prow i).map V.int)) := by
          rw [upd_ne aD, upd_ne al]
          exact ea
        refine ⟨rfl, ?_⟩
        refine tyes ?_
        refine iteT ?_
        refine ⟨_, rfl, _, rfl, a, _, _, _, rfl, rfl, SqL.of ea', atI_int (i := j) (by omega) (prow_get (by omega)), _, rfl, _, rfl, _, _, rfl, rfl, a, _, _, _, rfl, rfl, SqL.of ea', atI_int (i := j + 1) (by omega) (prow_get (by omega)), _, _, rfl, rfl, _, upd_same, sz_lt ?_, ?_⟩
        · rw [List.length_map, List.length_map, List.length_range]
          omega
        · rw [upd_upd, List.range_succ, List.map_append, List.map_append]
          rfl
      · rintro H' rfl
        have ei : ((0 : Int) + (i : Int)).toNat = i := by omega
        rw [ei]
        refine ⟨l, D, _, _, rfl, rfl, by rw [upd_ne lD, upd_same], upd_same, sz_le (by simp; omega), fun p np => ?_⟩
        have pD : D ≠ p := ne_of_none upd_same np
        refine ⟨sz_le (by show 1 ≤ _; omega), fun l2 nl2 => ?_⟩
        have pl2 : p ≠ l2 := ne_of_none upd_same nl2
        refine ⟨p, l2, _, _, rfl, rfl, by rw [upd_ne pl2, upd_same], upd_same, sz_le (by simp; omega), fun p2 np2 => ?_⟩
        refine ⟨?_, p2, _, ?_, rfl⟩
        · exact (((s2.trans (same_new nD)).trans (same_new np)).trans (same_new nl2)).trans (same_new np2)
        · rw [upd_same, prow_next, List.map_append, List.map_append]
          rfl
    · rintro σ H1 ⟨s1, a, y, ea, rfl⟩
      refine ⟨_, rfl, _, rfl, a, _, _, _, rfl, rfl, SqL.of ea, atI_int (i := k) rfl (prow_get (by omega)), ?_⟩
      exact q _ s1
/-! #### _law_common -/
def spLCommon : Sp := fun vs H Q _ => ∃ x y : Nat, vs = [.int (x : Int), .int (y : Int)] ∧ Q (.int (Nat.gcd x y : Int)) H
theorem ok__law_common (A : At K mg "_law_common" s__law_common) (B : Bt mg tM) :
    Def P w K mg base CX0 1 "_law_common" ["one", "other"] spLCommon := by
  obtain ⟨f, fd, F, gm⟩ := A
  refine ⟨⟨f, fd, F.ok sc__law_common (fun vs H Q E h => ?_) (fun cdv A outer s H vs Q E hr h => ?_), gm, F.kp, F.binds fun _ _ _ _ _ _ us hl => match us, hl with | [_, _], _ => rfl⟩⟩
  · obtain ⟨x, y, rfl, _⟩ := h
    rfl
  · obtain ⟨x, y, rfl, q⟩ := h
    refine ⟨_, (pss_cons (ps_while PassesOwn.never (pt_cmpR op_gt (pv 1) pe_int (nomark _)) (pss_one (ps_par (i := 0) (j := 1) (by rfl) sc__law_common.nd rfl rfl (by decide) rfl rfl (pa_cons (pv 1) (pa_cons (pe_op op_mod (pv 0) (pv 1)) pa_nil)) (by rfl))))
    (pss_one (ps_ret (pv 0)))), ?_⟩
    refine while_by (fun σ H' => H' = H ∧ ∃ a b : Nat, Nat.gcd a b = Nat.gcd x y ∧ σ = [some (.int (a : Int)), some (.int (b : Int))]) (fun σ _ => match σ with | [_, some (.int b)] => b.toNat | _ => 0) ⟨rfl, x, y, rfl, rfl⟩ ?_ ?_
    · rintro σ H' ⟨rfl, a, b, e, rfl⟩
      refine ⟨_, rfl, _, _, rfl, rfl, _, rfl, ite2 (fun h1 => ?_) (fun h1 => ?_)⟩
      · have h1 : (0 : Int) < (b : Int) := of_decide_eq_true h1
        refine ⟨_, rfl, _, rfl, _, rfl, _, _, rfl, rfl, h1, _, _, rfl, ?_⟩
        refine ⟨⟨rfl, b, a % b, ?_, rfl⟩, ?_⟩
        · rw [← e, Nat.gcd_comm b, ← Nat.gcd_rec, Nat.gcd_comm]
        · show ((a : Int) % (b : Int)).toNat < ((b : Int)).toNat
          have := Nat.mod_lt a (show b > 0 by omega)
          rw [show ((a : Int) % (b : Int)) = ((a % b : Nat) : Int) from rfl]
          omega
      · have h1' : ¬ (0 : Int) < (b : Int) := fun z => h1 (decide_eq_true z)
        have e0 : b = 0 := by omega
        subst e0
        rw [Nat.gcd_zero_right] at e
        refine ⟨_, rfl, ?_⟩
        rw [← e] at q
        exact q
    · rintro σ H' Q1 Q2 imp h
      obtain ⟨x1, h1, a, b, h2, h3, c, h4, h5⟩ := h
      exact ⟨x1, h1, a, b, h2, h3, c, h4, imp _ _ h5⟩
/-! #### the law -/
def spLaw (K : PySem.W.Frag) : Sp := fun vs H Q _ => ∃ (a : Addr) (ns : List Int), vs = [.ref a] ∧ SqL K H a (ns.map V.int) ∧ ns.length ≤ 63 ∧ ∀ H', Q (.bl true) H'
theorem ok_law {C_NoMany : Addr} {C_NoSet : Addr} {f : Addr} {fd : FuncData} (F : Fun K "law" "law" s_law f fd) (B : Bt mg tM) (D__law_size_by : Def P w K mg base CX0 1 "_law_size_by" ["cell"] spSizeBy) (D__law_family_by : Def P w K mg base CX0 3 "_law_family_by" ["script", "size"] (spFamBy K)) (D_share : Def P w K mg base (L2.CX P w) 3 "share" ["many", "family"] (spShare K C_NoMany C_NoSet)) (D__law_cell_at : Def P w K mg base CX0 1 "_law_cell_at" ["script", "k"] (spCellAt K)) (D__law_picks : Def P w K mg base CX0 1 "_law_picks" ["total", "some"] spLPicks) (D__law_whole : Def P w K mg base CX0 1 "_law_whole" ["found"] (spWhole K)) (D__law_common : Def P w K mg base CX0 1 "_law_common" ["one", "other"] spLCommon) (D__law_clash : Def P w K mg base CX0 1 "_law_clash" ["family"] (spLClash K)) :
    FnOk P w K mg base CX0 4 f fd ["script"] (spLaw K) := by
  obtain ⟨f__law_size_by, fd__law_size_by, G__law_size_by, g__law_size_by, k__law_size_by, b__law_size_by⟩ := D__law_size_by.ex
  obtain ⟨f__law_family_by, fd__law_family_by, G__law_family_by, g__law_family_by, k__law_family_by, b__law_family_by⟩ := D__law_family_by.ex
  obtain ⟨f_share, fd_share, G_share, g_share, k_share, b_share⟩ := D_share.ex
  obtain ⟨f__law_cell_at, fd__law_cell_at, G__law_cell_at, g__law_cell_at, k__law_cell_at, b__law_cell_at⟩ := D__law_cell_at.ex
  obtain ⟨f__law_picks, fd__law_picks, G__law_picks, g__law_picks, k__law_picks, b__law_picks⟩ := D__law_picks.ex
  obtain ⟨f__law_whole, fd__law_whole, G__law_whole, g__law_whole, k__law_whole, b__law_whole⟩ := D__law_whole.ex
  obtain ⟨f__law_common, fd__law_common, G__law_common, g__law_common, k__law_common, b__law_common⟩ := D__law_common.ex
  obtain ⟨f__law_clash, fd__law_clash, G__law_clash, g__law_clash, k__law_clash, b__law_clash⟩ := D__law_clash.ex
  refine F.ok sc_law (fun vs H Q E h => ?_) (fun cdv A outer s H vs Q E hr h => ?_)
  · obtain ⟨a, ns, rfl, _⟩ := h
    rfl
  · obtain ⟨a, ns, rfl, hS, hlen, q⟩ := h
    refine ⟨_, (pss_cons (ps_set (i := 1) sc_law.nd rfl (.inl rfl) (pe_call G__law_size_by (hr.mono (by decide)) (by rfl) g__law_size_by k__law_size_by b__law_size_by .nil pass0 (pa_cons (pe_call G__law_cell_at (hr.mono (by decide)) (by rfl) g__law_cell_at k__law_cell_at b__law_cell_at .nil pass0 (pa_cons (pv 0) (pa_cons pe_int pa_nil))) pa_nil)))
    (pss_cons (ps_set (i := 2) sc_law.nd rfl (.inl rfl) (pe_call G__law_family_by (hr.mono (by decide)) (by rfl) g__law_family_by k__law_family_by b__law_family_by .nil pass0 (pa_cons (pv 0) (pa_cons (pv 1) pa_nil))))
    (pss_cons (ps_set (i := 3) sc_law.nd rfl (.inl rfl) pe_int)
    (pss_cons (ps_set (i := 4) sc_law.nd rfl (.inl rfl) pe_int)
    (pss_cons (ps_for PassesOwn.never rfl (pi_list (pv 2)) (pg_name (i := 5) sc_law.nd rfl (.inl rfl)) (pss_cons (ps_set (i := 6) sc_law.nd rfl (.inl rfl) (pe_call G__law_picks (hr.mono (by decide)) (by rfl) g__law_picks k__law_picks b__law_picks .nil pass0 (pa_cons (pv 1) (pa_cons (pe_callB call_len_seq (by rfl) B.len (by decide +kernel) (pa_cons (pv 5) pa_nil)) pa_nil))))
    (pss_cons (ps_set (i := 3) sc_law.nd rfl (.inl rfl) (pe_op op_add (pe_op op_mulW (pv 3) (pv 6)) (pv 4)))
    (pss_one (ps_set (i := 4) sc_law.nd rfl (.inl rfl) (pe_op op_mulW (pv 4) (pv 6)))))))
    (pss_cons (ps_setLc (i := 7) (by rfl) sc_law.nd rfl rfl (sw_true rfl rfl rfl (by decide +kernel)) (own := [("members", 5)]) (g := gName 5) (pi_list (pv 2)) (blkOk_by (N := ["script", "size", "family", "over", "under", "members", "part", "handed", "found"]) (sc := defScope s_law) (by decide +kernel)) (fun _ _ _ _ _ => (pg_name (i := 5) sc_law.nd rfl (.inl rfl))) (fun _ _ _ _ _ => pts_nil) (fun _ _ _ _ _ => (pe_callTy (call_list_ofK K) (by rfl) B.list (by decide +kernel) (pa_cons (pv 5) pa_nil))))
    (pss_cons (ps_set (i := 8) sc_law.nd rfl (.inl rfl) (pe_call G_share (hr.mono (by decide)) (by rfl) g_share k_share b_share .nil passL (pa_cons (pv 1) (pa_cons (pv 7) pa_nil))))
    (pss_cons (ps_if (PW.pt (pw_or (pt_not (pt_val (pe_callB call_isi (by rfl) B.isinstance (by decide +kernel) (pa_cons (pv 8) (pa_cons (pe_bltn (v := .ty "tuple") (by rfl) B.tuple (by decide +kernel) rfl) pa_nil))))) (pw_or (pt_cmpR op_ne (pe_callB call_len_seq (by rfl) B.len (by decide +kernel) (pa_cons (pv 8) pa_nil)) pe_int (nomark _)) (pw_or1 (pt_cmpR (op_neD hr.units) (pv 7) (pv 2) (nomark _)))))) (pss_one (ps_ret pe_bl)) pss_nil)
    (pss_cons (ps_if (PW.pt (pw_or (pt_not (pt_val (pe_call G__law_whole (hr.mono (by decide)) (by rfl) g__law_whole k__law_whole b__law_whole .nil pass0 (pa_cons (pe_ix ix_tup (pv 8) pe_int (fun _ _ => rfl)) pa_nil)))) (pw_or (pt_not (pt_val (pe_call G__law_whole (hr.mono (by decide)) (by rfl) g__law_whole k__law_whole b__law_whole .nil pass0 (pa_cons (pe_ix ix_tup (pv 8) pe_int (fun _ _ => rfl)) pa_nil)))) (pw_or (pt_cmpR op_lt (pe_ix ix_tup (pv 8) pe_int (fun _ _ => rfl)) pe_int (nomark _)) (pw_or1 (pt_cmpR op_lt (pe_ix ix_tup (pv 8) pe_int (fun _ _ => rfl)) pe_int (nomark _))))))) (pss_one (ps_ret pe_bl)) pss_nil)
    (pss_cons (ps_if (PW.pt (pw_or (pt_cmpR op_ne (pe_call G__law_common (hr.mono (by decide)) (by rfl) g__law_common k__law_common b__law_common .nil pass0 (pa_cons (pe_ix ix_tup (pv 8) pe_int (fun _ _ => rfl)) (pa_cons (pe_ix ix_tup (pv 8) pe_int (fun _ _ => rfl)) pa_nil))) pe_int (nomark _)) (pw_or1 (pt_cmpR op_ne (pe_op op_mulW (pe_ix ix_tup (pv 8) pe_int (fun _ _ => rfl)) (pv 4)) (pe_op op_mulW (pv 3) (pe_ix ix_tup (pv 8) pe_int (fun _ _ => rfl))) (nomark _))))) (pss_one (ps_ret pe_bl)) pss_nil)
    (pss_one (ps_ret (pe_or (pe_cmpR op_notN (pe_call G__law_clash (hr.mono (by decide)) (by rfl) g__law_clash k__law_clash b__law_clash .nil pass0 (pa_cons (pv 2) pa_nil)) pe_non (nomark _)) (pe_one (pe_cmpR op_le (pe_ix ix_tup (pv 8) pe_int (fun _ _ => rfl)) (pe_ix ix_tup (pv 8) pe_int (fun _ _ => rfl)) (nomark _)))))))))))))))), ?_⟩
    refine ⟨_, rfl, a, ns, 0, rfl, hS, _, rfl, fun n hn => ?_⟩
    refine ⟨_, rfl, _, rfl, a, ns, n, rfl, hS, by omega, fun H1 p as rows F => ?_⟩
    have hlr : ∀ r ∈ rows, r.length ≤ n := fun r hr => (F.sets r hr).len
    have flen := F.len
    have las := F.rws.len
    -- over, under
    refine ⟨_, rfl, p, rfl, ⟨_, SqL.of F.lst⟩, ?_⟩
    refine for_list (K := K) (a := p) (xs := as.map V.ref) (fun i σ H' => Same H1 H' ∧ ∃ y z : Option V, σ = [some (.ref a), some (.int (n : Int)), some (.ref p), some (.int ((sh n (rows.take i)).1 : Int)), some (.int ((sh n (rows.take i)).2 : Int)), y, z, none, none])
      ⟨Same.refl _, none, none, by rw [List.take_zero]; rfl⟩ (fun i σ H' _ ⟨s, _⟩ => SqL.of (s _ _ F.lst)) ?_ ?_
    · rintro i x0 σ H' hi ⟨s1, y, z, rfl⟩
      have il : i < rows.length := by
        have := (List.getElem?_eq_some_iff.mp hi).1
        rw [List.length_map, las] at this
        exact this
      have gi : rows[i]? = some rows[i] := List.getElem?_eq_getElem il
      have hl := hlr _ (List.getElem_mem il)
      generalize rows[i] = r at *
      obtain ⟨b, eb, hb⟩ := (F.rws.same s1).get gi
      have ex : x0 = .ref b := by
        rw [List.getElem?_map, eb] at hi
        exact (Option.some.inj hi).symm
      subst ex
      have ti := take_snoc gi
      have sb := sh_small hn (F := rows.take i) (by rw [List.length_take]; omega)
      have cl : ch n r.length < 2 ^ 41 := Nat.lt_of_le_of_lt (ch_le n r.length) (Nat.pow_lt_pow_right (by decide) (by omega))
      refine ⟨_, rfl, _, rfl, b, _, rfl, .inl (SqL.of hb), n, r.length, by show [V.int (n : Int), V.int ((r.map V.int).length : Int)] = _; rw [List.length_map], by omega, hl, fun H2 s2 => ?_⟩
      have W1 : CMulW ((sh n (rows.take i)).1 : Int) (ch n r.length : Int) := wide_mul (a := 330) (b := 41) (by rw [Int.natAbs_natCast]; exact sb.1) (by rw [Int.natAbs_natCast]; exact cl) (by decide) (by decide) (by decide)
      have W2 : CMulW ((sh n (rows.take i)).2 : Int) (ch n r.length : Int) := wide_mul (a := 330) (b := 41) (by rw [Int.natAbs_natCast]; exact sb.2) (by rw [Int.natAbs_natCast]; exact cl) (by decide) (by decide) (by decide)
      refine ⟨_, rfl, _, rfl, _, _, rfl, rfl, W1, _, rfl, _, _, rfl, rfl, ?_⟩
      refine ⟨_, rfl, _, rfl, _, _, rfl, rfl, W2, ?_⟩
      refine ⟨s1.trans s2, some (.ref b), some (.int (ch n r.length : Int)), ?_⟩
      rw [ti, sh_snoc]
      have e1 : ((sh n (rows.take i)).1 : Int) * (ch n r.length : Int) + ((sh n (rows.take i)).2 : Int) = (((sh n (rows.take i)).1 * ch n r.length + (sh n (rows.take i)).2 : Nat) : Int) := by rw [Int.natCast_add, Int.natCast_mul]
      have e2 : ((sh n (rows.take i)).2 : Int) * (ch n r.length : Int) = (((sh n (rows.take i)).2 * ch n r.length : Nat) : Int) := by rw [Int.natCast_mul]
      dsimp only
      rw [← e1, ← e2]
      rfl
    rintro σ H2 ⟨s2, y0, z0, rfl⟩
    rw [List.length_map, las, List.take_length]
    have sb := sh_small hn flen
    have sp := sh_pos rows hlr
    have hle : NoHit rows → (sh n rows).1 ≤ (sh n rows).2 := fun z => share_le F.sets (nohit_apart z)
    generalize hO : (sh n rows).1 = O at *
    generalize hU : (sh n rows).2 = U at *
    have hp2 := s2 _ _ F.lst
    have hr2 := F.rws.same s2
    -- handed
    refine ⟨_, rfl, p, rfl, ⟨_, SqL.of hp2⟩, fun D nD => ?_⟩
    have pD : p ≠ D := ne_of_none hp2 nD
    refine lc_list (K := K) (a := p) (xs := as.map V.ref) (fun i H' => Same H2 H' ∧ ∃ ks, H' D = some (.lst (ks.map V.ref)) ∧ Rows H' ks (rows.take i) ∧ D ∉ ks) ⟨same_new nD, [], by rw [upd_same]; rfl, by rw [List.take_zero]; exact .nil, by simp⟩ (fun i H' _ ⟨s, _⟩ => SqL.of (s _ _ hp2)) ?_ ?_
    · rintro i x HC hi ⟨sC, ks, hD, hk, Dk⟩
      have il : i < rows.length := by
        have := (List.getElem?_eq_some_iff.mp hi).1
        rw [List.length_map, hr2.len] at this
        exact this
      have gi : rows[i]? = some rows[i] := List.getElem?_eq_getElem il
      generalize rows[i] = r at *
      obtain ⟨b, eb, hb⟩ := hr2.get gi
      have ex : x = .ref b := by
        rw [List.getElem?_map, eb] at hi
        exact (Option.some.inj hi).symm
      subst ex
      refine ⟨rfl, ?_⟩
      refine tyes ?_
      refine iteT ?_
      refine ⟨_, rfl, b, _, rfl, .inl (SqL.of (sC _ _ hb)), fun l nl => ?_⟩
      have Dl : D ≠ l := ne_of_none hD nl
      have sl : Same HC (upd HC l (.lst (r.map V.int))) := same_new nl
      refine ⟨_, by rw [upd_ne Dl]; exact hD, sz_lt (by rw [List.length_map, hk.len, List.length_take]; omega), same_mut (sC.trans sl) nD, ks ++ [l], ?_, ?_, ?_⟩
      · rw [upd_same, List.map_append]
        rfl
      · rw [take_snoc gi]
        refine Rows.snoc ((hk.same sl).upd Dk) ?_
        rw [upd_ne Dl.symm, upd_same]
      · intro hx
        rcases List.mem_append.mp hx with hx | hx
        · exact Dk hx
        · exact Dl (List.mem_singleton.mp hx)
    rintro H3 ⟨s3, ks, hD, hk, Dk⟩
    rw [List.length_map, hr2.len, List.take_length] at hk
    have hp3 := s3 _ _ hp2
    have hr3 := hr2.same s3
    -- found
    refine ⟨_, rfl, _, rfl, (n : Int), D, ks, rows, rfl, SqL.of hD, hk, by omega, FGuard.of hn F.sets F.nd fun H4 t x u s4 _ S ht => ?_⟩
    rw [show ((n : Int)).toNat = n from rfl] at S
    obtain ⟨S1, S2, S3, S4, S5⟩ := S
    rw [hO, hU] at S3
    rw [hO] at S4
    rw [hU] at S5
    have hp4 := s4 _ _ hp3
    have hr4 := hr3.same s4
    refine ⟨_, rfl, _, _, _, _, _, rfl, .ty "tuple", .base (.tup ht), kit_ty (a := "tuple") (b := "tuple") (r := true) (by decide +kernel), true, rfl, ?_⟩
    refine iteF ⟨_, rfl, t, _, rfl, .inr (SqT.of ht), rfl, _, rfl, ?_⟩
    refine iteF ?_
    refine ⟨_, rfl, _, rfl, dL rows, dL rows, dp_L (SqL.of (s4 _ _ hD)) (hk.same s4), dp_L (SqL.of hp4) hr4, dL_shaped _, dL_shaped _, _, rfl, ?_⟩
    rw [dL_eqv, decide_eq_true rfl]
    refine iteF ?_
    -- whole numbers
    have a0 : atI [V.int (x : Int), V.int (u : Int)] 0 = some (.int (x : Int)) := atI_nat (j := 0) rfl
    have a1 : atI [V.int (x : Int), V.int (u : Int)] 1 = some (.int (u : Int)) := atI_nat (j := 1) rfl
    refine ⟨_, rfl, t, _, 0, _, rfl, rfl, SqT.of ht, a0, _, rfl, true, rfl, ?_⟩
    refine iteF ⟨_, rfl, t, _, 1, _, rfl, rfl, SqT.of ht, a1, _, rfl, true, rfl, ?_⟩
    refine iteF ⟨_, rfl, t, _, 0, _, rfl, rfl, SqT.of ht, a0, _, _, rfl, rfl, _, rfl, ?_⟩
    rw [decide_eq_false (show ¬ (x : Int) < 0 by omega)]
    refine iteF ⟨_, rfl, t, _, 1, _, rfl, rfl, SqT.of ht, a1, _, _, rfl, rfl, _, rfl, ?_⟩
    rw [decide_eq_false (show ¬ (u : Int) < 1 by omega)]
    refine iteF ?_
    -- lowest terms, the sum
    refine ⟨_, rfl, t, _, 1, _, rfl, rfl, SqT.of ht, a1, _, rfl, t, _, 0, _, rfl, rfl, SqT.of ht, a0, u, x, rfl, ?_⟩
    rw [Nat.gcd_comm, S2]
    refine ⟨rfl, _, rfl, ?_⟩
    rw [decide_eq_true (show V.int ((1 : Nat) : Int) = V.int 1 from rfl)]
    have W1 : CMulW (x : Int) (U : Int) := wide_mul (a := 330) (b := 330) (by rw [Int.natAbs_natCast]; exact Nat.lt_of_le_of_lt S4 sb.1) (by rw [Int.natAbs_natCast]; exact sb.2) (by decide) (by decide) (by decide)
    have W2 : CMulW (O : Int) (u : Int) := wide_mul (a := 330) (b := 330) (by rw [Int.natAbs_natCast]; exact sb.1) (by rw [Int.natAbs_natCast]; exact Nat.lt_of_le_of_lt S5 sb.2) (by decide) (by decide) (by decide)
    refine iteF ⟨_, rfl, t, _, 0, _, rfl, rfl, SqT.of ht, a0, _, rfl, _, _, rfl, rfl, W1, _, rfl, _, rfl, t, _, 1, _, rfl, rfl, SqT.of ht, a1, _, _, rfl, rfl, W2, rfl, _, rfl, ?_⟩
    rw [decide_eq_true (show V.int ((x : Int) * (U : Int)) = V.int ((O : Int) * (u : Int)) by rw [← Int.natCast_mul, ← Int.natCast_mul, S3])]
    refine iteF ?_
    -- at most one
    refine ⟨_, rfl, p, as, rows, rfl, SqL.of hp4, hr4, by omega, fun r hr => by have := hlr r hr; omega, fun H5 v s5 dv => ?_⟩
    rcases dv with ⟨rfl, nh⟩ | ⟨t', k, j, rfl, hf, _⟩
    · refine ⟨rfl, _, rfl, ?_⟩
      refine iteF ?_
      have ht5 := s5 _ _ ht
      refine ⟨_, rfl, t, _, 0, _, rfl, rfl, SqT.of ht5, a0, _, rfl, t, _, 1, _, rfl, rfl, SqT.of ht5, a1, _, _, rfl, rfl, ?_⟩
      have xu : x ≤ u := by
        have h1 : x * U ≤ U * u := by
          rw [S3]
          exact Nat.mul_le_mul_right u (hle nh)
        rw [Nat.mul_comm] at h1
        exact Nat.le_of_mul_le_mul_left h1 sp
      show Q (V.bl (decide ((x : Int) ≤ (u : Int)))) _
      rw [decide_eq_true (show (x : Int) ≤ (u : Int) by omega)]
      exact q _
    · refine ⟨rfl, _, rfl, ?_⟩
      exact iteT (q _)
end
/-! ### what the top has written; the end -/
theorem all_mk {l : PySem.W.OpenLaw} {w : World} {K : PySem.W.Frag} {h : Heap} {mg : Str → Option Value} {fa f0 f1 f2 f3 f4 f5 f6 f7 f8 f9 f10 f11 f12 f13 f14 f15 C_NoMany C_NoSet : Addr} {tM : Tok}
    {od0 an0 od1 an1 od2 an2 od3 an3 od4 an4 od5 an5 od6 an6 od7 an7 od8 an8 od9 an9 od10 an10 od11 an11 od12 an12 od13 an13 od14 an14 od15 an15 : Option Addr} {sl0 sl1 sl2 sl3 sl4 sl5 sl6 sl7 sl8 sl9 sl10 sl11 sl12 sl13 sl14 sl15 : Array (Option Value)} {oc0 kV0 dc0 pm0 cd0 ct0 oc1 kV1 dc1 pm1 cd1 ct1 oc2 kV2 dc2 pm2 cd2 ct2 oc3 kV3 dc3 pm3 cd3 ct3 oc4 kV4 dc4 pm4 cd4 ct4 oc5 kV5 dc5 pm5 cd5 ct5 oc6 kV6 dc6 pm6 cd6 ct6 oc7 kV7 dc7 pm7 cd7 ct7 oc8 kV8 dc8 pm8 cd8 ct8 oc9 kV9 dc9 pm9 cd9 ct9 oc10 kV10 dc10 pm10 cd10 ct10 oc11 kV11 dc11 pm11 cd11 ct11 oc12 kV12 dc12 pm12 cd12 ct12 oc13 kV13 dc13 pm13 cd13 ct13 oc14 kV14 dc14 pm14 cd14 ct14 oc15 kV15 dc15 pm15 cd15 ct15 : Value}
    (X : K.In h) (G : h.Ns mainGlobals mg) (hfa : mg "law" = some (.ref fa))
    (xn0 : PySem.W.nsIn K mainGlobals "NoMany" = some (some (.ref C_NoMany)))
    (xx0 : PySem.W.excIn K C_NoMany [.type "ValueError", .type "Exception", .type "BaseException", .type "object"] "ValueError.__new__" = true)
    (xk0 : PySem.W.keepIn K (.ref C_NoMany) = true)
    (xb0 : PySem.W.subIn K (.ref C_NoMany) (.type "BaseException") = some true)
    (xt0 : PySem.W.typeIn K (.ref C_NoMany) = some (.type "type"))
    (xn1 : PySem.W.nsIn K mainGlobals "NoSet" = some (some (.ref C_NoSet)))
    (xx1 : PySem.W.excIn K C_NoSet [.type "ValueError", .type "Exception", .type "BaseException", .type "object"] "ValueError.__new__" = true)
    (xk1 : PySem.W.keepIn K (.ref C_NoSet) = true)
    (xb1 : PySem.W.subIn K (.ref C_NoSet) (.type "BaseException") = some true)
    (xt1 : PySem.W.typeIn K (.ref C_NoSet) = some (.type "type"))
    (a0 : PySem.W.nsIn K mainGlobals "asked_many" = some (some (.ref f0)))
    (l0 : K.lookup f0 = some ⟨oc0, od0, .func (PySem.W.fnOf "asked_many" "asked_many" (defArgs s_asked_many) (defBody s_asked_many) (defScope s_asked_many) .none kV0 dc0 pm0 an0 cd0 ct0), sl0⟩)
    (c0 : PySem.W.codeIn K cd0 "asked_many" = true)
    (k0 : PySem.W.keepIn K (.ref f0) = true)
    (a1 : PySem.W.nsIn K mainGlobals "asked_set" = some (some (.ref f1)))
    (l1 : K.lookup f1 = some ⟨oc1, od1, .func (PySem.W.fnOf "asked_set" "asked_set" (defArgs s_asked_set) (defBody s_asked_set) (defScope s_asked_set) .none kV1 dc1 pm1 an1 cd1 ct1), sl1⟩)
    (c1 : PySem.W.codeIn K cd1 "asked_set" = true)
    (k1 : PySem.W.keepIn K (.ref f1) = true)
    (a2 : PySem.W.nsIn K mainGlobals "picks" = some (some (.ref f2)))
    (l2 : K.lookup f2 = some ⟨oc2, od2, .func (PySem.W.fnOf "picks" "picks" (defArgs s_picks) (defBody s_picks) (defScope s_picks) .none kV2 dc2 pm2 an2 cd2 ct2), sl2⟩)
    (c2 : PySem.W.codeIn K cd2 "picks" = true)
    (k2 : PySem.W.keepIn K (.ref f2) = true)
    (a3 : PySem.W.nsIn K mainGlobals "asked_family" = some (some (.ref f3)))
    (l3 : K.lookup f3 = some ⟨oc3, od3, .func (PySem.W.fnOf "asked_family" "asked_family" (defArgs s_asked_family) (defBody s_asked_family) (defScope s_asked_family) .none kV3 dc3 pm3 an3 cd3 ct3), sl3⟩)
    (c3 : PySem.W.codeIn K cd3 "asked_family" = true)
    (k3 : PySem.W.keepIn K (.ref f3) = true)
    (a4 : PySem.W.nsIn K mainGlobals "common" = some (some (.ref f4)))
    (l4 : K.lookup f4 = some ⟨oc4, od4, .func (PySem.W.fnOf "common" "common" (defArgs s_common) (defBody s_common) (defScope s_common) .none kV4 dc4 pm4 an4 cd4 ct4), sl4⟩)
    (c4 : PySem.W.codeIn K cd4 "common" = true)
    (k4 : PySem.W.keepIn K (.ref f4) = true)
    (a5 : PySem.W.nsIn K mainGlobals "share" = some (some (.ref f5)))
    (l5 : K.lookup f5 = some ⟨oc5, od5, .func (PySem.W.fnOf "share" "share" (defArgs s_share) (defBody s_share) (defScope s_share) .none kV5 dc5 pm5 an5 cd5 ct5), sl5⟩)
    (c5 : PySem.W.codeIn K cd5 "share" = true)
    (k5 : PySem.W.keepIn K (.ref f5) = true)
    (a6 : PySem.W.nsIn K mainGlobals "_law_cell_at" = some (some (.ref f6)))
    (l6 : K.lookup f6 = some ⟨oc6, od6, .func (PySem.W.fnOf "_law_cell_at" "_law_cell_at" (defArgs s__law_cell_at) (defBody s__law_cell_at) (defScope s__law_cell_at) .none kV6 dc6 pm6 an6 cd6 ct6), sl6⟩)
    (c6 : PySem.W.codeIn K cd6 "_law_cell_at" = true)
    (k6 : PySem.W.keepIn K (.ref f6) = true)
    (a7 : PySem.W.nsIn K mainGlobals "_law_whole" = some (some (.ref f7)))
    (l7 : K.lookup f7 = some ⟨oc7, od7, .func (PySem.W.fnOf "_law_whole" "_law_whole" (defArgs s__law_whole) (defBody s__law_whole) (defScope s__law_whole) .none kV7 dc7 pm7 an7 cd7 ct7), sl7⟩)
    (c7 : PySem.W.codeIn K cd7 "_law_whole" = true)
    (k7 : PySem.W.keepIn K (.ref f7) = true)
    (a8 : PySem.W.nsIn K mainGlobals "_law_size_by" = some (some (.ref f8)))
    (l8 : K.lookup f8 = some ⟨oc8, od8, .func (PySem.W.fnOf "_law_size_by" "_law_size_by" (defArgs s__law_size_by) (defBody s__law_size_by) (defScope s__law_size_by) .none kV8 dc8 pm8 an8 cd8 ct8), sl8⟩)
    (c8 : PySem.W.codeIn K cd8 "_law_size_by" = true)
    (k8 : PySem.W.keepIn K (.ref f8) = true)
    (a9 : PySem.W.nsIn K mainGlobals "_law_set_by" = some (some (.ref f9)))
    (l9 : K.lookup f9 = some ⟨oc9, od9, .func (PySem.W.fnOf "_law_set_by" "_law_set_by" (defArgs s__law_set_by) (defBody s__law_set_by) (defScope s__law_set_by) .none kV9 dc9 pm9 an9 cd9 ct9), sl9⟩)
    (c9 : PySem.W.codeIn K cd9 "_law_set_by" = true)
    (k9 : PySem.W.keepIn K (.ref f9) = true)
    (a10 : PySem.W.nsIn K mainGlobals "_law_picked" = some (some (.ref f10)))
    (l10 : K.lookup f10 = some ⟨oc10, od10, .func (PySem.W.fnOf "_law_picked" "_law_picked" (defArgs s__law_picked) (defBody s__law_picked) (defScope s__law_picked) .none kV10 dc10 pm10 an10 cd10 ct10), sl10⟩)
    (c10 : PySem.W.codeIn K cd10 "_law_picked" = true)
    (k10 : PySem.W.keepIn K (.ref f10) = true)
    (a11 : PySem.W.nsIn K mainGlobals "_law_family_by" = some (some (.ref f11)))
    (l11 : K.lookup f11 = some ⟨oc11, od11, .func (PySem.W.fnOf "_law_family_by" "_law_family_by" (defArgs s__law_family_by) (defBody s__law_family_by) (defScope s__law_family_by) .none kV11 dc11 pm11 an11 cd11 ct11), sl11⟩)
    (c11 : PySem.W.codeIn K cd11 "_law_family_by" = true)
    (k11 : PySem.W.keepIn K (.ref f11) = true)
    (a12 : PySem.W.nsIn K mainGlobals "_law_clash" = some (some (.ref f12)))
    (l12 : K.lookup f12 = some ⟨oc12, od12, .func (PySem.W.fnOf "_law_clash" "_law_clash" (defArgs s__law_clash) (defBody s__law_clash) (defScope s__law_clash) .none kV12 dc12 pm12 an12 cd12 ct12), sl12⟩)
    (c12 : PySem.W.codeIn K cd12 "_law_clash" = true)
    (k12 : PySem.W.keepIn K (.ref f12) = true)
    (a13 : PySem.W.nsIn K mainGlobals "_law_picks" = some (some (.ref f13)))
    (l13 : K.lookup f13 = some ⟨oc13, od13, .func (PySem.W.fnOf "_law_picks" "_law_picks" (defArgs s__law_picks) (defBody s__law_picks) (defScope s__law_picks) .none kV13 dc13 pm13 an13 cd13 ct13), sl13⟩)
    (c13 : PySem.W.codeIn K cd13 "_law_picks" = true)
    (k13 : PySem.W.keepIn K (.ref f13) = true)
    (a14 : PySem.W.nsIn K mainGlobals "_law_common" = some (some (.ref f14)))
    (l14 : K.lookup f14 = some ⟨oc14, od14, .func (PySem.W.fnOf "_law_common" "_law_common" (defArgs s__law_common) (defBody s__law_common) (defScope s__law_common) .none kV14 dc14 pm14 an14 cd14 ct14), sl14⟩)
    (c14 : PySem.W.codeIn K cd14 "_law_common" = true)
    (k14 : PySem.W.keepIn K (.ref f14) = true)
    (a15 : PySem.W.nsIn K mainGlobals "law" = some (some (.ref f15)))
    (l15 : K.lookup f15 = some ⟨oc15, od15, .func (PySem.W.fnOf "law" "law" (defArgs s_law) (defBody s_law) (defScope s_law) .none kV15 dc15 pm15 an15 cd15 ct15), sl15⟩)
    (c15 : PySem.W.codeIn K cd15 "law" = true)
    (k15 : PySem.W.keepIn K (.ref f15) = true)
    (zlen : PySem.W.nsIn K mainGlobals "len" = some none)
    (zrange : PySem.W.nsIn K mainGlobals "range" = some none)
    (zsorted : PySem.W.nsIn K mainGlobals "sorted" = some none)
    (zisinstance : PySem.W.nsIn K mainGlobals "isinstance" = some none)
    (zint : PySem.W.nsIn K mainGlobals "int" = some none)
    (zbool : PySem.W.nsIn K mainGlobals "bool" = some none)
    (zlist : PySem.W.nsIn K mainGlobals "list" = some none)
    (ztuple : PySem.W.nsIn K mainGlobals "tuple" = some none)
    (zstr : PySem.W.nsIn K mainGlobals "str" = some none)
    (zsum : PySem.W.nsIn K mainGlobals "sum" = some none)
    (zall : PySem.W.nsIn K mainGlobals "all" = some none)
    (zmin : PySem.W.nsIn K mainGlobals "min" = some none)
    (zmax : PySem.W.nsIn K mainGlobals "max" = some none)
    (zValueError : PySem.W.nsIn K mainGlobals "ValueError" = some none)
    (zMOST : PySem.W.nsIn K mainGlobals "MOST" = some (some (.int 40 tM))) :
    ∃ fd : FuncData, (∀ (s : Shared) (v : Value), BindsTo s fd ⟨[v], []⟩ [("script", v)]) ∧ ∀ base : Heap, K.In base → base.Ns mainGlobals mg → FnOk l.prog w K mg base CX0 4 fa fd ["script"] (spLaw K) := by
  have e := hfa.symm.trans (PySem.W.mg_of X G a15)
  cases e
  have B : Bt mg tM := ⟨PySem.W.mg_none_of X G zlen, PySem.W.mg_none_of X G zrange, PySem.W.mg_none_of X G zsorted, PySem.W.mg_none_of X G zisinstance, PySem.W.mg_none_of X G zint, PySem.W.mg_none_of X G zbool, PySem.W.mg_none_of X G zlist, PySem.W.mg_none_of X G ztuple, PySem.W.mg_none_of X G zstr, PySem.W.mg_none_of X G zsum, PySem.W.mg_none_of X G zall, PySem.W.mg_none_of X G zmin, PySem.W.mg_none_of X G zmax, PySem.W.mg_none_of X G zValueError, PySem.W.mg_of X G zMOST⟩
  have X_NoMany : XT K mg "NoMany" C_NoMany := ⟨PySem.W.mg_of X G xn0, xx0, xk0, xb0, xt0⟩
  have X_NoSet : XT K mg "NoSet" C_NoSet := ⟨PySem.W.mg_of X G xn1, xx1, xk1, xb1, xt1⟩
  have A_asked_many : At K mg "asked_many" s_asked_many := ⟨f0, _, fun_mk (st := s_asked_many) l0 c0 k0, PySem.W.mg_of X G a0⟩
  have A_asked_set : At K mg "asked_set" s_asked_set := ⟨f1, _, fun_mk (st := s_asked_set) l1 c1 k1, PySem.W.mg_of X G a1⟩
  have A_picks : At K mg "picks" s_picks := ⟨f2, _, fun_mk (st := s_picks) l2 c2 k2, PySem.W.mg_of X G a2⟩
  have A_asked_family : At K mg "asked_family" s_asked_family := ⟨f3, _, fun_mk (st := s_asked_family) l3 c3 k3, PySem.W.mg_of X G a3⟩
  have A_common : At K mg "common" s_common := ⟨f4, _, fun_mk (st := s_common) l4 c4 k4, PySem.W.mg_of X G a4⟩
  have A_share : At K mg "share" s_share := ⟨f5, _, fun_mk (st := s_share) l5 c5 k5, PySem.W.mg_of X G a5⟩
  have A__law_cell_at : At K mg "_law_cell_at" s__law_cell_at := ⟨f6, _, fun_mk (st := s__law_cell_at) l6 c6 k6, PySem.W.mg_of X G a6⟩
  have A__law_whole : At K mg "_law_whole" s__law_whole := ⟨f7, _, fun_mk (st := s__law_whole) l7 c7 k7, PySem.W.mg_of X G a7⟩
  have A__law_size_by : At K mg "_law_size_by" s__law_size_by := ⟨f8, _, fun_mk (st := s__law_size_by) l8 c8 k8, PySem.W.mg_of X G a8⟩
  have A__law_set_by : At K mg "_law_set_by" s__law_set_by := ⟨f9, _, fun_mk (st := s__law_set_by) l9 c9 k9, PySem.W.mg_of X G a9⟩
  have A__law_picked : At K mg "_law_picked" s__law_picked := ⟨f10, _, fun_mk (st := s__law_picked) l10 c10 k10, PySem.W.mg_of X G a10⟩
  have A__law_family_by : At K mg "_law_family_by" s__law_family_by := ⟨f11, _, fun_mk (st := s__law_family_by) l11 c11 k11, PySem.W.mg_of X G a11⟩
  have A__law_clash : At K mg "_law_clash" s__law_clash := ⟨f12, _, fun_mk (st := s__law_clash) l12 c12 k12, PySem.W.mg_of X G a12⟩
  have A__law_picks : At K mg "_law_picks" s__law_picks := ⟨f13, _, fun_mk (st := s__law_picks) l13 c13 k13, PySem.W.mg_of X G a13⟩
  have A__law_common : At K mg "_law_common" s__law_common := ⟨f14, _, fun_mk (st := s__law_common) l14 c14 k14, PySem.W.mg_of X G a14⟩
  refine ⟨PySem.W.fnOf "law" "law" (defArgs s_law) (defBody s_law) (defScope s_law) .none kV15 dc15 pm15 an15 cd15 ct15, fun s v => .of_eq rfl, fun base _ _ => ?_⟩
  have D_asked_many := ok_asked_many (P := l.prog) (w := w) (base := base) A_asked_many B X_NoMany
  have D_asked_set := ok_asked_set (P := l.prog) (w := w) (base := base) A_asked_set B X_NoSet
  have D_picks := ok_picks (P := l.prog) (w := w) (base := base) A_picks B
  have D_asked_family := ok_asked_family (P := l.prog) (w := w) (base := base) A_asked_family B X_NoSet D_asked_many D_asked_set
  have D_common := ok_common (P := l.prog) (w := w) (base := base) A_common B
  have D_share := ok_share (P := l.prog) (w := w) (base := base) A_share B D_asked_family D_picks D_common
  have D__law_cell_at := ok__law_cell_at (P := l.prog) (w := w) (base := base) A__law_cell_at B
  have D__law_whole := ok__law_whole (P := l.prog) (w := w) (base := base) A__law_whole B
  have D__law_size_by := ok__law_size_by (P := l.prog) (w := w) (base := base) A__law_size_by B
  have D__law_set_by := ok__law_set_by (P := l.prog) (w := w) (base := base) A__law_set_by B D__law_cell_at
  have D__law_picked := ok__law_picked (P := l.prog) (w := w) (base := base) A__law_picked B D__law_cell_at
  have D__law_family_by := ok__law_family_by (P := l.prog) (w := w) (base := base) A__law_family_by B D__law_set_by D__law_cell_at D__law_picked
  have D__law_clash := ok__law_clash (P := l.prog) (w := w) (base := base) A__law_clash B
  have D__law_picks := ok__law_picks (P := l.prog) (w := w) (base := base) A__law_picks B
  have D__law_common := ok__law_common (P := l.prog) (w := w) (base := base) A__law_common B
  exact ok_law (fun_mk (st := s_law) l15 c15 k15) B D__law_size_by D__law_family_by D_share D__law_cell_at D__law_picks D__law_whole D__law_common D__law_clash
end SC
open PySem PySem.W PyProof.Rows
set_option maxHeartbeats 0 in
theorem PySem.Challenge.cw_setchains_k14_share_holds : PySem.Challenge.rw_setchains_k14_share.Holds := by
  w_on; o_law; k_head; (case hw => w_witness2)
  k_fill
  refine L2.walk_of (l := PySem.Challenge.rw_setchains_k14_share) (n := 63) (k := 4) (x := "script") (CX := fun _ => L2.CX0) (sp := fun w => SC.spLaw _) rfl (by decide) rfl ⟨rfl, by decide, by decide⟩ (fun w h Y => PySem.W.kIn_of Y) ?F (fun _ _ a ns hl _ hS => ⟨a, ns, rfl, hS, hl, fun _ => rfl⟩) (fun _ _ _ _ _ h => h)
  case F =>
    intro w mg fa h KX G hmg
    refine' SC.all_mk KX G hmg ?xn0 ?xx0 ?xk0 ?xb0 ?xt0 ?xn1 ?xx1 ?xk1 ?xb1 ?xt1 ?a0 ?l0 ?c0 ?k0 ?a1 ?l1 ?c1 ?k1 ?a2 ?l2 ?c2 ?k2 ?a3 ?l3 ?c3 ?k3 ?a4 ?l4 ?c4 ?k4 ?a5 ?l5 ?c5 ?k5 ?a6 ?l6 ?c6 ?k6 ?a7 ?l7 ?c7 ?k7 ?a8 ?l8 ?c8 ?k8 ?a9 ?l9 ?c9 ?k9 ?a10 ?l10 ?c10 ?k10 ?a11 ?l11 ?c11 ?k11 ?a12 ?l12 ?c12 ?k12 ?a13 ?l13 ?c13 ?k13 ?a14 ?l14 ?c14 ?k14 ?a15 ?l15 ?c15 ?k15 ?zlen ?zrange ?zsorted ?zisinstance ?zint ?zbool ?zlist ?ztuple ?zstr ?zsum ?zall ?zmin ?zmax ?zValueError ?zMOST
    (case xn0 => k_is)
    (case xx0 => k_exc)
    (case xk0 => k_is)
    (case xb0 => k_is)
    (case xt0 => k_is)
    (case xn1 => k_is)
    (case xx1 => k_exc)
    (case xk1 => k_is)
    (case xb1 => k_is)
    (case xt1 => k_is)
    (case a0 => k_is)
    (case l0 => k_is)
    (case c0 => k_is)
    (case k0 => k_is)
    (case a1 => k_is)
    (case l1 => k_is)
    (case c1 => k_is)
    (case k1 => k_is)
    (case a2 => k_is)
    (case l2 => k_is)
    (case c2 => k_is)
    (case k2 => k_is)
    (case a3 => k_is)
    (case l3 => k_is)
    (case c3 => k_is)
    (case k3 => k_is)
    (case a4 => k_is)
    (case l4 => k_is)
    (case c4 => k_is)
    (case k4 => k_is)
    (case a5 => k_is)
    (case l5 => k_is)
    (case c5 => k_is)
    (case k5 => k_is)
    (case a6 => k_is)
    (case l6 => k_is)
    (case c6 => k_is)
    (case k6 => k_is)
    (case a7 => k_is)
    (case l7 => k_is)
    (case c7 => k_is)
    (case k7 => k_is)
    (case a8 => k_is)
    (case l8 => k_is)
    (case c8 => k_is)
    (case k8 => k_is)
    (case a9 => k_is)
    (case l9 => k_is)
    (case c9 => k_is)
    (case k9 => k_is)
    (case a10 => k_is)
    (case l10 => k_is)
    (case c10 => k_is)
    (case k10 => k_is)
    (case a11 => k_is)
    (case l11 => k_is)
    (case c11 => k_is)
    (case k11 => k_is)
    (case a12 => k_is)
    (case l12 => k_is)
    (case c12 => k_is)
    (case k12 => k_is)
    (case a13 => k_is)
    (case l13 => k_is)
    (case c13 => k_is)
    (case k13 => k_is)
    (case a14 => k_is)
    (case l14 => k_is)
    (case c14 => k_is)
    (case k14 => k_is)
    (case a15 => k_is)
    (case l15 => k_is)
    (case c15 => k_is)
    (case k15 => k_is)
    (case zlen => k_is)
    (case zrange => k_is)
    (case zsorted => k_is)
    (case zisinstance => k_is)
    (case zint => k_is)
    (case zbool => k_is)
    (case zlist => k_is)
    (case ztuple => k_is)
    (case zstr => k_is)
    (case zsum => k_is)
    (case zall => k_is)
    (case zmin => k_is)
    (case zmax => k_is)
    (case zValueError => k_is)
    (case zMOST => k_is)
