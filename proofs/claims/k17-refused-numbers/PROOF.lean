import PyProof.Rows.All
import Wide.All
import OpenK.AllK
import Wide.FinOn
import HandS.ForMost
import HandS.ForExc
import HandS.IsInst
import HandS.Deep
import HandS.SortInts
import HandS.SortRule
import HandS.Wide
import HandS.Evl
import HandS.ExcIs
import HandS.HotCalls
import HandS.TryMany
import PySem.Challenge.RW_setchains_k17_refused_numbers
set_option Elab.async false
set_option linter.all false
set_option maxRecDepth 100000
set_option maxHeartbeats 4000000
set_option linter.all false
namespace SC
/-! ### lists -/
/-- rising -/
abbrev Up (l : List Int) : Prop := l.Pairwise (· < ·)
def irange (n : Nat) : List Int := (List.range n).map fun i : Nat => (i : Int)
theorem irange_succ (n : Nat) : irange (n + 1) = irange n ++ [(n : Int)] := by
  unfold irange
  rw [List.range_succ, List.map_append]
  rfl
theorem irange_len (n : Nat) : (irange n).length = n := by simp [irange]
theorem mem_irange {n : Nat} {x : Int} : x ∈ irange n ↔ 0 ≤ x ∧ x < n := by
  unfold irange
  rw [List.mem_map]
  constructor
  · rintro ⟨i, hi, rfl⟩
    have := List.mem_range.mp hi
    omega
  · intro h
    exact ⟨x.toNat, List.mem_range.mpr (by omega), by omega⟩
theorem irange_up (n : Nat) : Up (irange n) := by
  induction n with
  | zero => exact List.Pairwise.nil
  | succ n ih =>
    rw [irange_succ]
    refine List.pairwise_append.mpr ⟨ih, List.pairwise_singleton _ _, fun a ha b hb => ?_⟩
    have := mem_irange.mp ha
    rw [List.mem_singleton] at hb
    omega
theorem irange_get {n i : Nat} (h : i < n) : (irange n)[i]? = some (i : Int) := by
  unfold irange
  rw [List.getElem?_map, List.getElem?_range h]
  rfl
theorem up_nodup {l : List Int} (h : Up l) : l.Nodup := h.imp fun h e => by omega
/-- rising lists of the same members are one -/
theorem up_ext : ∀ {l m : List Int}, Up l → Up m → (∀ x, x ∈ l ↔ x ∈ m) → l = m
  | [], [], _, _, _ => rfl
  | [], y :: m, _, _, h => absurd ((h y).mpr (List.mem_cons_self ..)) (by simp)
  | x :: l, [], _, _, h => absurd ((h x).mp (List.mem_cons_self ..)) (by simp)
  | x :: l, y :: m, hl, hm, h => by
    obtain ⟨hx, hl'⟩ := List.pairwise_cons.mp hl
    obtain ⟨hy, hm'⟩ := List.pairwise_cons.mp hm
    have e : x = y := by
      rcases List.mem_cons.mp ((h x).mp (List.mem_cons_self ..)) with e | e
      · exact e
      · rcases List.mem_cons.mp ((h y).mpr (List.mem_cons_self ..)) with q | q
        · exact q.symm
        · have := hx y q
          have := hy x e
          omega
    subst e
    have e2 : l = m := up_ext hl' hm' fun z => by
      constructor
      · intro hz
        rcases List.mem_cons.mp ((h z).mp (List.mem_cons_of_mem _ hz)) with q | q
        · have := hx z hz
          omega
        · exact q
      · intro hz
        rcases List.mem_cons.mp ((h z).mpr (List.mem_cons_of_mem _ hz)) with q | q
        · have := hy z hz
          omega
        · exact q
    rw [e2]
theorem up_filter {l : List Int} (h : Up l) (p : Int → Bool) : Up (l.filter p) := h.filter p
theorem up_take {l : List Int} (h : Up l) (j : Nat) : Up (l.take j) := h.sublist (List.take_sublist j l)
theorem up_drop {l : List Int} (h : Up l) (j : Nat) : Up (l.drop j) := h.sublist (List.drop_sublist j l)
/-- a set of so many things -/
structure IsSet (n : Nat) (ms : List Int) : Prop where
  up : Up ms
  lo : ∀ x ∈ ms, 0 ≤ x
  hi : ∀ x ∈ ms, x < n
theorem IsSet.eq {n : Nat} {ms : List Int} (h : IsSet n ms) : (irange n).filter (fun x => decide (x ∈ ms)) = ms := by
  refine up_ext (up_filter (irange_up n) _) h.up fun x => ?_
  rw [List.mem_filter, mem_irange]
  constructor
  · rintro ⟨_, q⟩
    exact of_decide_eq_true q
  · intro q
    exact ⟨⟨h.lo x q, h.hi x q⟩, decide_eq_true q⟩
theorem isSet_of {n : Nat} (p : Int → Bool) : IsSet n ((irange n).filter p) where
  up := up_filter (irange_up n) p
  lo := fun x h => (mem_irange.mp (List.mem_filter.mp h).1).1
  hi := fun x h => (mem_irange.mp (List.mem_filter.mp h).1).2
theorem IsSet.len {n : Nat} {ms : List Int} (h : IsSet n ms) : ms.length ≤ n := by
  have e := congrArg List.length h.eq
  have l := List.length_filter_le (fun x => decide (x ∈ ms)) (irange n)
  rw [irange_len] at l
  omega
theorem isSet_nil (n : Nat) : IsSet n [] := ⟨List.Pairwise.nil, (fun _ h => nomatch h), (fun _ h => nomatch h)⟩

/-! ### sorting -/
def insB {α : Type} (le : α → α → Bool) (x : α) : List α → List α
  | [] => [x]
  | y :: r => if le x y then x :: y :: r else y :: insB le x r
def sortB {α : Type} (le : α → α → Bool) : List α → List α
  | [] => []
  | x :: r => insB le x (sortB le r)
theorem insB_perm {α : Type} (le : α → α → Bool) (x : α) : ∀ l : List α, (insB le x l).Perm (x :: l)
  | [] => List.Perm.refl _
  | y :: r => by
    unfold insB
    split
    · exact List.Perm.refl _
    · exact ((insB_perm le x r).cons y).trans (List.Perm.swap x y r)
theorem sortB_perm {α : Type} (le : α → α → Bool) : ∀ l : List α, (sortB le l).Perm l
  | [] => List.Perm.refl _
  | x :: r => (insB_perm le x _).trans ((sortB_perm le r).cons x)
theorem insB_pw {α : Type} {le : α → α → Bool} (tot : ∀ a b, le a b = true ∨ le b a = true) (tr : ∀ a b c, le a b = true → le b c = true → le a c = true) (x : α) :
    ∀ l : List α, l.Pairwise (fun a b => le a b = true) → (insB le x l).Pairwise (fun a b => le a b = true)
  | [], _ => List.pairwise_singleton _ _
  | y :: r, h => by
    obtain ⟨h1, h2⟩ := List.pairwise_cons.mp h
    unfold insB
    split
    · rename_i hle
      refine List.pairwise_cons.mpr ⟨fun z hz => ?_, h⟩
      rcases List.mem_cons.mp hz with e | hz
      · rw [e]; exact hle
      · exact tr _ _ _ hle (h1 z hz)
    · rename_i hle
      refine List.pairwise_cons.mpr ⟨fun z hz => ?_, insB_pw tot tr x r h2⟩
      rcases List.mem_cons.mp ((insB_perm le x r).mem_iff.mp hz) with e | hz
      · rw [e]
        rcases tot x y with q | q
        · exact absurd q hle
        · exact q
      · exact h1 z hz
theorem sortB_pw {α : Type} {le : α → α → Bool} (tot : ∀ a b, le a b = true ∨ le b a = true) (tr : ∀ a b c, le a b = true → le b c = true → le a c = true) :
    ∀ l : List α, (sortB le l).Pairwise (fun a b => le a b = true)
  | [] => List.Pairwise.nil
  | x :: r => insB_pw tot tr x _ (sortB_pw tot tr r)
/-- sorted rearrangements are one -/
theorem pw_uniq {α : Type} {le : α → α → Bool} : ∀ {l m : List α}, (∀ a ∈ l, ∀ b ∈ l, le a b = true → le b a = true → a = b) → l.Pairwise (fun a b => le a b = true) → m.Pairwise (fun a b => le a b = true) → l.Perm m → l = m
  | [], m, _, _, _, p => (List.Perm.eq_nil p.symm).symm
  | x :: l, [], _, _, _, p => absurd p.length_eq (by simp)
  | x :: l, y :: m, an, hl, hm, p => by
    obtain ⟨hx, hl'⟩ := List.pairwise_cons.mp hl
    obtain ⟨hy, hm'⟩ := List.pairwise_cons.mp hm
    have e : x = y := by
      rcases List.mem_cons.mp (p.mem_iff.mp (List.mem_cons_self (a := x) (l := l))) with q | q
      · exact q
      · rcases List.mem_cons.mp (p.mem_iff.mpr (List.mem_cons_self (a := y) (l := m))) with r | r
        · exact r.symm
        · exact an x (List.mem_cons_self ..) y (List.mem_cons_of_mem _ r) (hx y r) (hy x q)
    subst e
    rw [pw_uniq (fun a ha b hb => an a (List.mem_cons_of_mem _ ha) b (List.mem_cons_of_mem _ hb)) hl' hm' p.cons_inv]
def leI (a b : Int) : Bool := decide (a ≤ b)
abbrev isort (l : List Int) : List Int := sortB leI l
theorem isort_pw (l : List Int) : (isort l).Pairwise (· ≤ ·) := by
  have h := sortB_pw (le := leI) (fun a b => by unfold leI; simp only [decide_eq_true_eq]; omega) (fun a b c => by unfold leI; simp only [decide_eq_true_eq]; omega) l
  exact h.imp fun {a b} h => of_decide_eq_true h
theorem isort_uniq {l m : List Int} (hl : l.Pairwise (· ≤ ·)) (p : l.Perm m) : l = isort m := by
  refine pw_uniq (le := leI) (fun a _ b _ h1 h2 => ?_) (hl.imp fun h => decide_eq_true h) ?_ (p.trans (sortB_perm leI m).symm)
  · have := of_decide_eq_true h1
    have := of_decide_eq_true h2
    omega
  · exact (isort_pw m).imp fun h => decide_eq_true h
theorem isort_mem {l : List Int} {x : Int} : x ∈ isort l ↔ x ∈ l := (sortB_perm leI l).mem_iff
theorem isort_len (l : List Int) : (isort l).length = l.length := (sortB_perm leI l).length_eq
theorem isort_up {l : List Int} (h : l.Nodup) : Up (isort l) := by
  have n : (isort l).Nodup := (sortB_perm leI l).nodup_iff.mpr h
  have p := isort_pw l
  generalize isort l = k at n p
  induction k with
  | nil => exact List.Pairwise.nil
  | cons x r ih =>
    obtain ⟨p1, p2⟩ := List.pairwise_cons.mp p
    obtain ⟨n1, n2⟩ := List.nodup_cons.mp n
    refine List.pairwise_cons.mpr ⟨fun y hy => ?_, ih n2 p2⟩
    have := p1 y hy
    have ne : x ≠ y := fun e => n1 (e ▸ hy)
    omega
/-- pairs by their first, then their second -/
def leP (a b : Int × Int) : Bool := decide (a.1 < b.1 ∨ a.1 = b.1 ∧ a.2 ≤ b.2)
abbrev psort (l : List (Int × Int)) : List (Int × Int) := sortB leP l
theorem psort_uniq {l m : List (Int × Int)} (hl : l.Pairwise (fun a b => leP a b = true)) (p : l.Perm m) : l = psort m := by
  refine pw_uniq (le := leP) (fun a _ b _ h1 h2 => ?_) hl ?_ (p.trans (sortB_perm leP m).symm)
  · have h1 := of_decide_eq_true h1
    have h2 := of_decide_eq_true h2
    obtain ⟨a1, a2⟩ := a
    obtain ⟨b1, b2⟩ := b
    simp only at h1 h2
    have e1 : a1 = b1 := by omega
    have e2 : a2 = b2 := by omega
    rw [e1, e2]
  · refine sortB_pw (fun a b => ?_) (fun a b c h1 h2 => ?_) m
    · unfold leP
      simp only [decide_eq_true_eq]
      omega
    · unfold leP at *
      simp only [decide_eq_true_eq] at *
      omega
theorem psort_mem {l : List (Int × Int)} {x : Int × Int} : x ∈ psort l ↔ x ∈ l := (sortB_perm leP l).mem_iff
theorem psort_len (l : List (Int × Int)) : (psort l).length = l.length := (sortB_perm leP l).length_eq
/-! ### the program's own look at a set -/
def setOk (m : Int) : Int → List Int → Bool
  | _, [] => true
  | b, x :: r => if x ≤ b ∨ m ≤ x then false else setOk m x r
theorem setOk_iff {m : Int} : ∀ {b : Int} {l : List Int}, setOk m b l = true ↔ Up l ∧ (∀ x ∈ l, b < x) ∧ ∀ x ∈ l, x < m
  | b, [] => by simp [setOk]
  | b, x :: r => by
    unfold setOk
    split
    · rename_i h
      constructor
      · intro z; cases z
      · rintro ⟨h1, h2, h3⟩
        have := h2 x (List.mem_cons_self ..)
        have := h3 x (List.mem_cons_self ..)
        omega
    · rename_i h
      rw [setOk_iff (b := x) (l := r)]
      constructor
      · rintro ⟨h1, h2, h3⟩
        refine ⟨List.pairwise_cons.mpr ⟨h2, h1⟩, fun y hy => ?_, fun y hy => ?_⟩
        · rcases List.mem_cons.mp hy with e | e
          · omega
          · have := h2 y e
            omega
        · rcases List.mem_cons.mp hy with e | e
          · omega
          · exact h3 y e
      · rintro ⟨h1, h2, h3⟩
        obtain ⟨h4, h5⟩ := List.pairwise_cons.mp h1
        exact ⟨h5, h4, fun y hy => h3 y (List.mem_cons_of_mem _ hy)⟩
theorem setOk_set {n : Nat} {ms : List Int} : setOk n (-1) ms = true ↔ IsSet n ms := by
  rw [setOk_iff]
  constructor
  · rintro ⟨h1, h2, h3⟩
    exact ⟨h1, fun x hx => by have := h2 x hx; omega, h3⟩
  · intro h
    exact ⟨h.up, fun x hx => by have := h.lo x hx; omega, h.hi⟩
end SC
namespace SC
/-! ### how many ways -/
/-- Pascal's numbers -/
def ch : Nat → Nat → Nat
  | _, 0 => 1
  | 0, _ + 1 => 0
  | n + 1, k + 1 => ch n k + ch n (k + 1)
theorem ch_zero (n : Nat) : ch n 0 = 1 := by cases n <;> rfl
theorem ch_gt : ∀ {n k : Nat}, n < k → ch n k = 0
  | 0, k + 1, _ => rfl
  | n + 1, k + 1, h => by
    show ch n k + ch n (k + 1) = 0
    rw [ch_gt (show n < k by omega), ch_gt (show n < k + 1 by omega)]
theorem ch_self : ∀ n : Nat, ch n n = 1
  | 0 => rfl
  | n + 1 => by
    show ch n n + ch n (n + 1) = 1
    rw [ch_self n, ch_gt (by omega)]
theorem ch_le : ∀ n k : Nat, ch n k ≤ 2 ^ n
  | n, 0 => by
    rw [ch_zero]
    exact Nat.one_le_two_pow
  | 0, k + 1 => by
    show 0 ≤ _
    omega
  | n + 1, k + 1 => by
    show ch n k + ch n (k + 1) ≤ 2 ^ (n + 1)
    have h1 := ch_le n k
    have h2 := ch_le n (k + 1)
    rw [Nat.pow_succ]
    omega
theorem ch_pos : ∀ {n k : Nat}, k ≤ n → 0 < ch n k
  | n, 0, _ => by
    rw [ch_zero]
    omega
  | n + 1, k + 1, h => by
    show 0 < ch n k + ch n (k + 1)
    have := ch_pos (show k ≤ n by omega)
    omega
/-- the next number of a row -/
theorem ch_next : ∀ n k : Nat, k ≤ n → ch n k * (n - k) = ch n (k + 1) * (k + 1)
  | 0, k, h => by
    have e : k = 0 := by omega
    subst e
    rfl
  | n + 1, 0, _ => by
    have h0 := ch_next n 0 (by omega)
    show 1 * (n + 1 - 0) = (ch n 0 + ch n 1) * 1
    rw [ch_zero] at h0 ⊢
    simp only [Nat.sub_zero, Nat.one_mul, Nat.zero_add, Nat.mul_one] at h0 ⊢
    omega
  | n + 1, k + 1, h => by
    show (ch n k + ch n (k + 1)) * (n + 1 - (k + 1)) = (ch n (k + 1) + ch n (k + 2)) * (k + 1 + 1)
    by_cases hk : k = n
    · subst hk
      rw [ch_self, ch_gt (show k < k + 1 by omega), ch_gt (show k < k + 2 by omega)]
      simp
    · have h1 := ch_next n k (by omega)
      have h2 := ch_next n (k + 1) (by omega)
      obtain ⟨d, hd⟩ : ∃ d, n = k + 1 + d := ⟨n - (k + 1), by omega⟩
      have e1 : n - k = d + 1 := by omega
      have e2 : n - (k + 1) = d := by omega
      have e3 : n + 1 - (k + 1) = d + 1 := by omega
      rw [e1] at h1
      rw [e2] at h2
      rw [e3]
      generalize ch n k = a at *
      generalize ch n (k + 1) = b at *
      generalize ch n (k + 2) = c at *
      have q1 : a * (d + 1) = b * (k + 1) := h1
      have q2 : b * d = c * (k + 1 + 1) := h2
      rw [Nat.add_mul, q1, Nat.add_mul, ← q2]
      have : b * (d + 1) = b * d + b := by rw [Nat.mul_add, Nat.mul_one]
      have : b * (k + 1 + 1) = b * (k + 1) + b := by rw [Nat.mul_add, Nat.mul_one]
      omega
theorem ch_div {n k : Nat} (h : k ≤ n) : ((ch n k : Int) * ((n : Int) - (k : Int))) / ((k : Int) + 1) = (ch n (k + 1) : Int) := by
  have e := ch_next n k h
  have e1 : ((n : Int) - (k : Int)) = ((n - k : Nat) : Int) := by omega
  have e2 : ((k : Int) + 1) = ((k + 1 : Nat) : Int) := by omega
  rw [e1, e2, ← Int.natCast_mul, ← Int.natCast_ediv, e, Nat.mul_div_cancel _ (by omega)]
/-- picks(total, some) -/
def picks (t s : Int) : Int := if s < 0 ∨ t < s then 0 else ch t.toNat s.toNat
theorem picks_nat (n k : Nat) : picks n k = ch n k := by
  unfold picks
  split
  · rename_i h
    rw [ch_gt (by omega)]
    rfl
  · rfl
/-- a row of Pascal's -/
def prow (k : Nat) : List Int := (List.range (k + 1)).map fun j => (ch k j : Int)
theorem prow_len (k : Nat) : (prow k).length = k + 1 := by simp [prow]
theorem prow_get {k j : Nat} (h : j ≤ k) : (prow k)[j]? = some (ch k j : Int) := by
  unfold prow
  rw [List.getElem?_map, List.getElem?_range (by omega)]
  rfl
theorem prow_next (k : Nat) : prow (k + 1) = [(1 : Int)] ++ (List.range k).map (fun j => (ch k j : Int) + (ch k (j + 1) : Int)) ++ [1] := by
  unfold prow
  rw [List.range_succ, List.map_append, List.range_succ_eq_map, List.map_cons, List.map_map]
  have e : ((fun j => (ch (k + 1) j : Int)) ∘ Nat.succ) = fun j => (ch k j : Int) + (ch k (j + 1) : Int) := by
    funext j
    show ((ch k j + ch k (j + 1) : Nat) : Int) = _
    omega
  rw [e, ch_zero]
  have e2 : (List.map (fun j => (ch (k + 1) j : Int)) [k + 1]) = [1] := by
    show [(ch (k + 1) (k + 1) : Int)] = [1]
    rw [ch_self]
    rfl
  rw [e2]
  rfl
end SC
namespace SC
/-! ### the machine of pairs: things gone through from nought on -/
structure S3 where
  prs : List (Int × Int)
  aln : List Int
  wt : List Int
/-- one thing: a member closes the last that waits, if any; another one waits -/
def stp (b : Bool) (t : Int) (s : S3) : S3 :=
  if b then
    match s.wt.getLast? with
    | some w => ⟨s.prs ++ [(w, t)], s.aln, s.wt.dropLast⟩
    | none => ⟨s.prs, s.aln ++ [t], s.wt⟩
  else ⟨s.prs, s.aln, s.wt ++ [t]⟩
def st (f : Int → Bool) : Nat → S3
  | 0 => ⟨[], [], []⟩
  | i + 1 => stp (f i) i (st f i)
theorem stp_no (t : Int) (s : S3) : stp false t s = ⟨s.prs, s.aln, s.wt ++ [t]⟩ := rfl
theorem stp_alone {t : Int} {s : S3} (h : s.wt = []) : stp true t s = ⟨s.prs, s.aln ++ [t], []⟩ := by
  unfold stp
  rw [h]
  rfl
theorem stp_pop {t w : Int} {s : S3} {r : List Int} (h : s.wt = r ++ [w]) : stp true t s = ⟨s.prs ++ [(w, t)], s.aln, r⟩ := by
  unfold stp
  rw [h]
  simp
theorem snoc_cases {α : Type} (l : List α) : l = [] ∨ ∃ r w, l = r ++ [w] := by
  cases e : l.getLast? with
  | none => exact .inl (List.getLast?_eq_none_iff.mp e)
  | some w =>
    refine .inr ⟨l.dropLast, w, ?_⟩
    have hn : l ≠ [] := fun z => by rw [z] at e; cases e
    have e2 := List.getLast?_eq_some_getLast hn
    rw [e] at e2
    rw [Option.some.inj e2]
    exact (List.dropLast_concat_getLast hn).symm
theorem st_congr {f g : Int → Bool} : ∀ {n : Nat}, (∀ i : Nat, i < n → f i = g i) → st f n = st g n
  | 0, _ => rfl
  | n + 1, h => by
    show stp (f n) n (st f n) = stp (g n) n (st g n)
    rw [h n (by omega), st_congr fun i hi => h i (by omega)]
def firsts (p : List (Int × Int)) : List Int := p.map (·.1)
def seconds (p : List (Int × Int)) : List Int := p.map (·.2)
theorem firsts_snoc (p : List (Int × Int)) (x : Int × Int) : firsts (p ++ [x]) = firsts p ++ [x.1] := by simp [firsts]
theorem seconds_snoc (p : List (Int × Int)) (x : Int × Int) : seconds (p ++ [x]) = seconds p ++ [x.2] := by simp [seconds]

/-- what holds behind i things -/
structure Ok (f : Int → Bool) (i : Nat) (s : S3) : Prop where
  wt : s.wt = (irange i).filter fun x => !f x && !(firsts s.prs).contains x
  aln : s.aln = (irange i).filter fun x => f x && !(seconds s.prs).contains x
  fst : ∀ p ∈ s.prs, 0 ≤ p.1 ∧ p.1 < p.2 ∧ p.2 < i ∧ f p.1 = false ∧ f p.2 = true
  nd1 : (firsts s.prs).Nodup
  nd2 : Up (seconds s.prs)
  sep : ∀ x ∈ s.aln, ∀ y ∈ s.wt, x < y
  sum : 2 * s.prs.length + s.aln.length + s.wt.length = i
theorem mem_firsts {p : List (Int × Int)} {x : Int} : x ∈ firsts p ↔ ∃ y, (x, y) ∈ p := by
  unfold firsts
  rw [List.mem_map]
  constructor
  · rintro ⟨⟨a, b⟩, h, rfl⟩
    exact ⟨b, h⟩
  · rintro ⟨y, h⟩
    exact ⟨(x, y), h, rfl⟩
theorem mem_seconds {p : List (Int × Int)} {x : Int} : x ∈ seconds p ↔ ∃ y, (y, x) ∈ p := by
  unfold seconds
  rw [List.mem_map]
  constructor
  · rintro ⟨⟨a, b⟩, h, rfl⟩
    exact ⟨a, h⟩
  · rintro ⟨y, h⟩
    exact ⟨(y, x), h, rfl⟩
theorem filter_congr' {α : Type} {p q : α → Bool} {l : List α} (h : ∀ x ∈ l, p x = q x) : l.filter p = l.filter q := List.filter_congr h
theorem up_last {r : List Int} {w : Int} (h : Up (r ++ [w])) : (∀ x ∈ r, x < w) ∧ Up r := by
  obtain ⟨h1, _, h3⟩ := List.pairwise_append.mp h
  exact ⟨fun x hx => h3 x hx w (List.mem_singleton.mpr rfl), h1⟩
theorem filter_ne_last {r : List Int} {w : Int} (h : Up (r ++ [w])) : (r ++ [w]).filter (fun x => x != w) = r := by
  obtain ⟨h1, _⟩ := up_last h
  rw [List.filter_append]
  have e1 : r.filter (fun x => x != w) = r := List.filter_eq_self.mpr fun x hx => by
    have := h1 x hx
    simp
    omega
  rw [e1]
  simp
theorem ok_st (f : Int → Bool) : ∀ i : Nat, Ok f i (st f i)
  | 0 => ⟨rfl, rfl, (fun p h => nomatch h), List.nodup_nil, List.Pairwise.nil, (fun x h => nomatch h), rfl⟩
  | i + 1 => by
    have o := ok_st f i
    show Ok f (i + 1) (stp (f i) i (st f i))
    generalize st f i = s at o
    obtain ⟨P, A, W⟩ := s
    obtain ⟨hW, hA, hF, n1, n2, sp, sm⟩ := o
    dsimp only at *
    have mi : ∀ x ∈ irange i, x ≠ (i : Int) := fun x hx e => by
      have := mem_irange.mp hx
      omega
    have bF : (firsts P).contains (i : Int) = false := by
      cases e : (firsts P).contains (i : Int) with
      | false => rfl
      | true =>
        obtain ⟨y, hy⟩ := mem_firsts.mp (List.contains_iff_mem.mp e)
        have := hF _ hy
        dsimp only at this
        omega
    have bS : (seconds P).contains (i : Int) = false := by
      cases e : (seconds P).contains (i : Int) with
      | false => rfl
      | true =>
        obtain ⟨y, hy⟩ := mem_seconds.mp (List.contains_iff_mem.mp e)
        have := hF _ hy
        dsimp only at this
        omega
    have upW : Up W := by
      rw [hW]
      exact up_filter (irange_up i) _
    have memW : ∀ x ∈ W, 0 ≤ x ∧ x < i ∧ f x = false ∧ x ∉ firsts P := fun x hx => by
      rw [hW] at hx
      obtain ⟨h1, h2⟩ := List.mem_filter.mp hx
      rw [Bool.and_eq_true, Bool.not_eq_true', Bool.not_eq_true'] at h2
      have := mem_irange.mp h1
      refine ⟨this.1, this.2, h2.1, fun z => ?_⟩
      have := List.contains_iff_mem.mpr z
      rw [h2.2] at this
      cases this
    have memA : ∀ x ∈ A, x < i := fun x hx => by
      rw [hA] at hx
      exact (mem_irange.mp (List.mem_filter.mp hx).1).2
    cases hf : f i with
    | false =>
      rw [stp_no]
      refine ⟨?_, ?_, fun p hp => ?_, n1, n2, fun x hx y hy => ?_, ?_⟩
      · dsimp only
        rw [irange_succ, List.filter_append, ← hW]
        congr 1
        rw [List.filter_cons, if_pos (by rw [hf, bF]; rfl)]
        rfl
      · dsimp only
        rw [irange_succ, List.filter_append, ← hA]
        rw [List.filter_cons, if_neg (by rw [hf]; simp)]
        simp
      · have := hF p hp
        exact ⟨this.1, this.2.1, by omega, this.2.2.2⟩
      · dsimp only at hx hy
        rcases List.mem_append.mp hy with hy | hy
        · exact sp x hx y hy
        · rw [List.mem_singleton] at hy
          have := memA x hx
          omega
      · dsimp only
        rw [List.length_append, List.length_singleton]
        omega
    | true =>
      rcases snoc_cases W with e | ⟨r, w, e⟩
      · subst e
        rw [stp_alone rfl]
        refine ⟨?_, ?_, fun p hp => ?_, n1, n2, fun x hx y hy => (nomatch hy), ?_⟩
        · dsimp only
          rw [irange_succ, List.filter_append, ← hW]
          rw [List.filter_cons, if_neg (by rw [hf]; simp)]
          rfl
        · dsimp only
          rw [irange_succ, List.filter_append, ← hA]
          congr 1
          rw [List.filter_cons, if_pos (by rw [hf, bS]; rfl)]
          rfl
        · have := hF p hp
          exact ⟨this.1, this.2.1, by omega, this.2.2.2⟩
        · dsimp only at sm ⊢
          rw [List.length_append, List.length_singleton]
          simp only [List.length_nil] at sm ⊢
          omega
      · subst e
        rw [stp_pop rfl]
        have hw := memW w (List.mem_append_right _ (List.mem_singleton.mpr rfl))
        refine ⟨?_, ?_, fun p hp => ?_, ?_, ?_, fun x hx y hy => sp x hx y (List.mem_append_left _ hy), ?_⟩
        · dsimp only
          rw [irange_succ, List.filter_append, firsts_snoc]
          rw [List.filter_cons, if_neg (by rw [hf]; simp), List.filter_nil, List.append_nil]
          have e1 : (irange i).filter (fun x => !f x && !(firsts P ++ [w]).contains x) = ((irange i).filter (fun x => !f x && !(firsts P).contains x)).filter (fun x => x != w) := by
            rw [List.filter_filter]
            refine List.filter_congr fun x hx => ?_
            simp only [List.contains_append, List.contains_cons, List.contains_nil, Bool.or_false]
            show _ = (!(x == w) && (!f x && !(firsts P).contains x))
            generalize f x = a
            generalize (firsts P).contains x = b
            generalize (x == w) = c
            cases a <;> cases b <;> cases c <;> rfl
          rw [e1, ← hW]
          exact (filter_ne_last upW).symm
        · dsimp only
          rw [irange_succ, List.filter_append, seconds_snoc]
          rw [List.filter_cons, if_neg (by simp [List.contains_append]), List.filter_nil, List.append_nil]
          rw [hA]
          refine List.filter_congr fun x hx => ?_
          have nx := mi x hx
          simp only [List.contains_append, List.contains_cons, List.contains_nil, Bool.or_false]
          have : (x == (i : Int)) = false := by simpa using nx
          rw [this, Bool.or_false]
        · dsimp only at hp
          rcases List.mem_append.mp hp with hp | hp
          · have := hF p hp
            exact ⟨this.1, this.2.1, by omega, this.2.2.2⟩
          · rw [List.mem_singleton] at hp
            subst hp
            exact ⟨hw.1, hw.2.1, by dsimp only; omega, hw.2.2.1, hf⟩
        · dsimp only
          rw [firsts_snoc]
          refine List.nodup_append.mpr ⟨n1, by simp, fun a ha b hb e => ?_⟩
          rw [List.mem_singleton] at hb
          subst hb
          exact hw.2.2.2 (e ▸ ha)
        · dsimp only
          rw [seconds_snoc]
          refine List.pairwise_append.mpr ⟨n2, List.pairwise_singleton _ _, fun a ha b hb => ?_⟩
          rw [List.mem_singleton] at hb
          obtain ⟨y, hy⟩ := mem_seconds.mp ha
          have := hF _ hy
          dsimp only at this hb
          omega
        · dsimp only at sm ⊢
          rw [List.length_append, List.length_singleton] at *
          omega
end SC
namespace SC
/-! ### the law's own pairs -/
def free (f : Int → Bool) (cl : List Int) (t : Int) : List Int := (irange t.toNat).filter fun k => !f k && !cl.contains k
def lstep (f : Int → Bool) (found : List (Int × Int)) (t : Int) : List (Int × Int) :=
  match (free f (firsts found) t).getLast? with
  | some w => found ++ [(w, t)]
  | none => found
def lpairs (f : Int → Bool) (ms : List Int) : List (Int × Int) := ms.foldl (lstep f) []
theorem lpairs_eq (f : Int → Bool) : ∀ n : Nat, lpairs f ((irange n).filter f) = (st f n).prs
  | 0 => rfl
  | n + 1 => by
    have o := ok_st f n
    have ih := lpairs_eq f n
    rw [irange_succ, List.filter_append]
    show _ = (stp (f n) n (st f n)).prs
    cases hf : f n with
    | false =>
      rw [List.filter_cons, if_neg (by rw [hf]; simp), List.filter_nil, List.append_nil, ih]
      rfl
    | true =>
      rw [List.filter_cons, if_pos hf, List.filter_nil]
      unfold lpairs at ih ⊢
      rw [List.foldl_append, ih]
      show lstep f (st f n).prs n = _
      unfold lstep
      have e : free f (firsts (st f n).prs) n = (st f n).wt := o.wt.symm
      rw [e]
      rcases snoc_cases (st f n).wt with q | ⟨r, w, q⟩
      · rw [stp_alone q, q]
        rfl
      · rw [stp_pop q, q, List.getLast?_concat]
/-- members by a list -/
def mem (ms : List Int) : Int → Bool := fun x => ms.contains x
theorem mem_true {ms : List Int} {x : Int} : mem ms x = true ↔ x ∈ ms := List.contains_iff_mem
theorem mem_false {ms : List Int} {x : Int} : mem ms x = false ↔ x ∉ ms := by
  cases h : mem ms x with
  | true => simp [mem_true.mp h]
  | false =>
    refine ⟨fun _ q => ?_, fun _ => rfl⟩
    rw [mem_true.mpr q] at h
    cases h
theorem IsSet.eqf {n : Nat} {ms : List Int} (h : IsSet n ms) : (irange n).filter (mem ms) = ms := by
  refine Eq.trans (List.filter_congr fun x _ => ?_) h.eq
  cases q : mem ms x with
  | true => exact (decide_eq_true (mem_true.mp q)).symm
  | false => exact (decide_eq_false (mem_false.mp q)).symm
/-- the machine's state behind all things -/
def fin (n : Nat) (ms : List Int) : S3 := st (mem ms) n
theorem law_pairs {n : Nat} {ms : List Int} (h : IsSet n ms) : lpairs (mem ms) ms = (fin n ms).prs := by
  have e := lpairs_eq (mem ms) n
  rw [h.eqf] at e
  exact e
/-- the law's loose members and loose others -/
def takenBy (ps : List (Int × Int)) (x : Int) : Bool := (firsts ps).contains x || (seconds ps).contains x
theorem law_alone {n : Nat} {ms : List Int} (h : IsSet n ms) : ms.filter (fun x => !takenBy (fin n ms).prs x) = (fin n ms).aln := by
  have o := ok_st (mem ms) n
  have e : (fin n ms).aln = _ := o.aln
  have e2 : ms.filter (fun x => !takenBy (fin n ms).prs x) = ((irange n).filter (mem ms)).filter (fun x => !takenBy (fin n ms).prs x) := by rw [h.eqf]
  rw [e, e2, List.filter_filter]
  refine List.filter_congr fun x _ => ?_
  unfold takenBy
  show (!((firsts (st (mem ms) n).prs).contains x || _) && mem ms x) = (mem ms x && _)
  cases q : mem ms x with
  | false => simp
  | true =>
    have : (firsts (st (mem ms) n).prs).contains x = false := by
      cases z : (firsts (st (mem ms) n).prs).contains x with
      | false => rfl
      | true =>
        obtain ⟨y, hy⟩ := mem_firsts.mp (List.contains_iff_mem.mp z)
        have := (o.fst _ hy).2.2.2.1
        dsimp only at this
        rw [q] at this
        cases this
    rw [this]
    simp
    rfl
theorem law_others {n : Nat} {ms : List Int} (h : IsSet n ms) : (irange n).filter (fun x => !takenBy (fin n ms).prs x && !mem ms x) = (fin n ms).wt := by
  have o := ok_st (mem ms) n
  have e : (fin n ms).wt = _ := o.wt
  rw [e]
  refine List.filter_congr fun x _ => ?_
  unfold takenBy
  show (!(_ || (seconds (st (mem ms) n).prs).contains x) && !mem ms x) = (!mem ms x && !_)
  cases q : mem ms x with
  | true => simp
  | false =>
    have : (seconds (st (mem ms) n).prs).contains x = false := by
      cases z : (seconds (st (mem ms) n).prs).contains x with
      | false => rfl
      | true =>
        obtain ⟨y, hy⟩ := mem_seconds.mp (List.contains_iff_mem.mp z)
        have := (o.fst _ hy).2.2.2.2
        dsimp only at this
        rw [q] at this
        cases this
    rw [this]
    simp
    rfl
theorem fin_aln_set {n : Nat} (ms : List Int) : IsSet n (fin n ms).aln := by
  have o : (fin n ms).aln = _ := (ok_st (mem ms) n).aln
  rw [o]
  exact isSet_of _
theorem fin_wt_set {n : Nat} (ms : List Int) : IsSet n (fin n ms).wt := by
  have o : (fin n ms).wt = _ := (ok_st (mem ms) n).wt
  rw [o]
  exact isSet_of _
end SC
namespace SC
/-! ### chains: the sets of the same pairs -/
theorem aln_mono (f : Int → Bool) (i : Nat) : ∀ d : Nat, (st f i).aln <+: (st f (i + d)).aln
  | 0 => List.prefix_refl _
  | d + 1 => by
    refine (aln_mono f i d).trans ?_
    show _ <+: (stp (f ((i + d : Nat) : Int)) ((i + d : Nat) : Int) (st f (i + d))).aln
    generalize st f (i + d) = s
    cases hf : f ((i + d : Nat) : Int) with
    | false => exact List.prefix_refl _
    | true =>
      rcases snoc_cases s.wt with q | ⟨r, w, q⟩
      · rw [stp_alone q]
        exact List.prefix_append _ _
      · rw [stp_pop q]
        exact List.prefix_refl _
theorem prs_mono (f : Int → Bool) (i : Nat) : ∀ d : Nat, (st f i).prs <+: (st f (i + d)).prs
  | 0 => List.prefix_refl _
  | d + 1 => by
    refine (prs_mono f i d).trans ?_
    show _ <+: (stp (f ((i + d : Nat) : Int)) ((i + d : Nat) : Int) (st f (i + d))).prs
    generalize st f (i + d) = s
    cases hf : f ((i + d : Nat) : Int) with
    | false => exact List.prefix_refl _
    | true =>
      rcases snoc_cases s.wt with q | ⟨r, w, q⟩
      · rw [stp_alone q]
        exact List.prefix_refl _
      · rw [stp_pop q]
        exact List.prefix_append _ _
theorem wt_lt {f : Int → Bool} {i : Nat} {x : Int} (h : x ∈ (st f i).wt) : 0 ≤ x ∧ x < i := by
  rw [(ok_st f i).wt] at h
  exact mem_irange.mp (List.mem_filter.mp h).1
theorem wt_nd (f : Int → Bool) (i : Nat) : (st f i).wt.Nodup := by
  rw [(ok_st f i).wt]
  exact up_nodup (up_filter (irange_up i) _)
/-- what waits below one that waits to the end waits to the end -/
theorem stk {f : Int → Bool} {i : Nat} {U : List Int} {x : Int} : ∀ d : Nat, (U ++ [x]) <+: (st f i).wt → x ∈ (st f (i + d)).wt → (U ++ [x]) <+: (st f (i + d)).wt
  | 0, h, _ => h
  | d + 1, h, hx => by
    have xi : x < i := (wt_lt (h.subset (List.mem_append_right _ (List.mem_singleton.mpr rfl)))).2
    have ih := stk (f := f) (i := i) (U := U) (x := x) d h
    have nd := wt_nd f (i + d)
    have e : st f (i + (d + 1)) = stp (f ((i + d : Nat) : Int)) ((i + d : Nat) : Int) (st f (i + d)) := rfl
    rw [e] at hx ⊢
    generalize st f (i + d) = s at *
    cases hf : f ((i + d : Nat) : Int) with
    | false =>
      rw [hf, stp_no] at hx
      rw [stp_no]
      dsimp only at *
      rcases List.mem_append.mp hx with hx | hx
      · exact (ih hx).trans (List.prefix_append _ _)
      · rw [List.mem_singleton] at hx
        omega
    | true =>
      rw [hf] at hx
      rcases snoc_cases s.wt with q | ⟨r, w, q⟩
      · rw [stp_alone q] at hx
        exact nomatch hx
      · rw [stp_pop q] at hx ⊢
        dsimp only at *
        rw [q] at ih nd
        obtain ⟨V, hV⟩ := ih (List.mem_append_left _ hx)
        rcases snoc_cases V with z | ⟨V', v, z⟩
        · subst z
          rw [List.append_nil] at hV
          have e2 := List.append_inj_right' hV rfl
          have e3 : x = w := by simpa using e2
          subst e3
          have := (List.nodup_append.mp nd).2.2 x hx x (List.mem_singleton.mpr rfl)
          exact absurd rfl this
        · subst z
          rw [← List.append_assoc] at hV
          exact ⟨V', List.append_inj_left' hV rfl⟩
/-- where a thing stands in a rising list -/
theorem up_split {L : List Int} (h : Up L) {x : Int} (hx : x ∈ L) : ∃ b, L = L.filter (fun y => decide (y < x)) ++ x :: b := by
  obtain ⟨a, b, e⟩ := List.append_of_mem hx
  refine ⟨b, ?_⟩
  have ha : L.filter (fun y => decide (y < x)) = a := by
    rw [e] at h
    obtain ⟨h1, h2, h3⟩ := List.pairwise_append.mp h
    obtain ⟨h4, h5⟩ := List.pairwise_cons.mp h2
    rw [e, List.filter_append]
    have e1 : a.filter (fun y => decide (y < x)) = a := List.filter_eq_self.mpr fun y hy => decide_eq_true (h3 y hy x (List.mem_cons_self ..))
    have e2 : (x :: b).filter (fun y => decide (y < x)) = [] := List.filter_eq_nil_iff.mpr fun y hy => by
      rcases List.mem_cons.mp hy with q | q
      · rw [q]; simp
      · have := h4 y q
        simp
        omega
    rw [e1, e2, List.append_nil]
  rw [ha]
  exact e
theorem up_take_mem {L : List Int} (h : Up L) {x : Int} (hx : x ∈ L) (j : Nat) : x ∈ L.take j ↔ (L.filter (fun y => decide (y < x))).length < j := by
  obtain ⟨b, e⟩ := up_split h hx
  generalize L.filter (fun y => decide (y < x)) = a at e
  subst e
  rw [List.take_append, List.mem_append]
  obtain ⟨h1, h2, h3⟩ := List.pairwise_append.mp h
  constructor
  · rintro (q | q)
    · have := h3 x (List.mem_of_mem_take q) x (List.mem_cons_self ..)
      omega
    · by_cases z : a.length < j
      · exact z
      · rw [show j - a.length = 0 by omega] at q
        exact nomatch q
  · intro z
    refine .inr ?_
    obtain ⟨d, hd⟩ : ∃ d, j - a.length = d + 1 := ⟨j - a.length - 1, by omega⟩
    rw [hd]
    exact List.mem_cons_self ..
theorem up_filter_succ {L : List Int} (h : Up L) {i : Nat} (hi : (i : Int) ∈ L) : L.filter (fun y => decide (y < ((i + 1 : Nat) : Int))) = L.filter (fun y => decide (y < (i : Int))) ++ [(i : Int)] := by
  obtain ⟨b, e⟩ := up_split h hi
  have up := h
  rw [e] at up
  obtain ⟨h1, h2, h3⟩ := List.pairwise_append.mp up
  obtain ⟨h4, h5⟩ := List.pairwise_cons.mp h2
  generalize ha : L.filter (fun y => decide (y < (i : Int))) = a at *
  subst e
  rw [List.filter_append]
  have e1 : a.filter (fun y => decide (y < ((i + 1 : Nat) : Int))) = a := List.filter_eq_self.mpr fun y hy => decide_eq_true (by have := h3 y hy i (List.mem_cons_self ..); omega)
  have e2 : ((i : Int) :: b).filter (fun y => decide (y < ((i + 1 : Nat) : Int))) = [(i : Int)] := by
    rw [List.filter_cons, if_pos (decide_eq_true (by omega)), List.filter_eq_nil_iff.mpr fun y hy => by have := h4 y hy; simp; omega]
  rw [e1, e2]
theorem filter_succ_no {L : List Int} {i : Nat} (hi : (i : Int) ∉ L) : L.filter (fun y => decide (y < ((i + 1 : Nat) : Int))) = L.filter (fun y => decide (y < (i : Int))) := by
  refine List.filter_congr fun y hy => ?_
  have ne : y ≠ (i : Int) := fun e => hi (e ▸ hy)
  by_cases z : y < (i : Int)
  · rw [decide_eq_true z, decide_eq_true (by omega)]
  · rw [decide_eq_false z, decide_eq_false (by omega)]
/-- all loose things -/
def lse (s : S3) : List Int := s.aln ++ s.wt
theorem lse_up (f : Int → Bool) (n : Nat) : Up (lse (st f n)) := by
  have o := ok_st f n
  refine List.pairwise_append.mpr ⟨?_, ?_, o.sep⟩
  · rw [o.aln]; exact up_filter (irange_up n) _
  · rw [o.wt]; exact up_filter (irange_up n) _
theorem aln_iff {f : Int → Bool} {n : Nat} {x : Int} : x ∈ (st f n).aln ↔ (0 ≤ x ∧ x < n) ∧ f x = true ∧ x ∉ seconds (st f n).prs := by
  rw [(ok_st f n).aln, List.mem_filter, mem_irange, Bool.and_eq_true, Bool.not_eq_true']
  rw [show ((seconds (st f n).prs).contains x = false ↔ x ∉ seconds (st f n).prs) from mem_false]
theorem wt_iff {f : Int → Bool} {n : Nat} {x : Int} : x ∈ (st f n).wt ↔ (0 ≤ x ∧ x < n) ∧ f x = false ∧ x ∉ firsts (st f n).prs := by
  rw [(ok_st f n).wt, List.mem_filter, mem_irange, Bool.and_eq_true, Bool.not_eq_true', Bool.not_eq_true']
  rw [show ((firsts (st f n).prs).contains x = false ↔ x ∉ firsts (st f n).prs) from mem_false]
theorem firsts_sub {p q : List (Int × Int)} (h : p <+: q) {x : Int} (hx : x ∈ firsts p) : x ∈ firsts q := by
  obtain ⟨y, hy⟩ := mem_firsts.mp hx
  exact mem_firsts.mpr ⟨y, h.subset hy⟩
theorem seconds_sub {p q : List (Int × Int)} (h : p <+: q) {x : Int} (hx : x ∈ seconds p) : x ∈ seconds q := by
  obtain ⟨y, hy⟩ := mem_seconds.mp hx
  exact mem_seconds.mpr ⟨y, h.subset hy⟩
/-- the member test of the set with the first j of the loose things, and f's paired members -/
def flip (f : Int → Bool) (L : List Int) (j : Nat) : Int → Bool := fun x => if L.contains x then (L.take j).contains x else f x
theorem flip_in {f : Int → Bool} {L : List Int} {j : Nat} {x : Int} (h : x ∈ L) : flip f L j x = (L.take j).contains x := if_pos (List.contains_iff_mem.mpr h)
theorem flip_out {f : Int → Bool} {L : List Int} {j : Nat} {x : Int} (h : x ∉ L) : flip f L j x = f x := if_neg fun z => h (List.contains_iff_mem.mp z)
/-- THE CHAIN: the set with the first j loose things has the same pairs -/
theorem chain_st (f : Int → Bool) (n j : Nat) : st (flip f (lse (st f n)) j) n = ⟨(st f n).prs, (lse (st f n)).take j, (lse (st f n)).drop j⟩ := by
  have on := ok_st f n
  have upL := lse_up f n
  have memL : ∀ x, x ∈ lse (st f n) ↔ x ∈ (st f n).aln ∨ x ∈ (st f n).wt := fun x => List.mem_append
  generalize hL : lse (st f n) = L at *
  have main : ∀ i : Nat, i ≤ n → ∃ wl pd : List Int, (st f i).wt = wl ++ pd ∧ (∀ x ∈ wl, x ∈ L) ∧ (∀ x ∈ pd, x ∉ L) ∧ L.filter (fun y => decide (y < (i : Int))) = (st f i).aln ++ wl ∧
      st (flip f L j) i = ⟨(st f i).prs, (L.filter (fun y => decide (y < (i : Int)))).take j, (L.filter (fun y => decide (y < (i : Int)))).drop j ++ pd⟩ := by
    intro i
    induction i with
    | zero =>
      intro _
      have e : L.filter (fun y => decide (y < ((0 : Nat) : Int))) = [] := List.filter_eq_nil_iff.mpr fun y hy => by
        rcases (memL y).mp hy with q | q
        · have := (aln_iff.mp q).1
          simp
          omega
        · have := (wt_iff.mp q).1
          simp
          omega
      exact ⟨[], [], rfl, (fun x h => nomatch h), (fun x h => nomatch h), e, by rw [e]; simp; rfl⟩
    | succ i ih =>
      intro hi
      obtain ⟨wl, pd, eW, hwl, hpd, eL, eS⟩ := ih (by omega)
      obtain ⟨d, hd⟩ : ∃ d, n = (i + 1) + d := ⟨n - (i + 1), by omega⟩
      have sP : (st f (i + 1)).prs <+: (st f n).prs := by rw [hd]; exact prs_mono f (i + 1) d
      have sA : (st f (i + 1)).aln <+: (st f n).aln := by rw [hd]; exact aln_mono f (i + 1) d
      have e1 : st f (i + 1) = stp (f i) i (st f i) := rfl
      have e2 : st (flip f L j) (i + 1) = stp (flip f L j i) i (st (flip f L j) i) := rfl
      rw [e2, eS]
      cases hf : f i with
      | false =>
        rw [hf, stp_no] at e1
        by_cases hiL : (i : Int) ∈ L
        · -- it waits to the end: nothing that closes later waits below it
          have iw : (i : Int) ∈ (st f n).wt := by
            rcases (memL i).mp hiL with q | q
            · have := (aln_iff.mp q).2.1
              rw [hf] at this
              cases this
            · exact q
          have pd0 : pd = [] := by
            cases pd with
            | nil => rfl
            | cons y r =>
              have pre : ((st f i).wt ++ [(i : Int)]) <+: (st f (i + 1)).wt := by rw [e1]; exact List.prefix_refl _
              have := stk (f := f) (i := i + 1) (U := (st f i).wt) (x := i) d pre (by rw [← hd]; exact iw)
              rw [← hd, eW] at this
              have hy : y ∈ (st f n).wt := this.subset (List.mem_append_left _ (List.mem_append_right _ (List.mem_cons_self ..)))
              exact absurd ((memL y).mpr (.inr hy)) (hpd y (List.mem_cons_self ..))
          subst pd0
          rw [List.append_nil] at eW
          have eL2 := up_filter_succ upL hiL
          refine ⟨wl ++ [(i : Int)], [], ?_, ?_, (fun x h => nomatch h), ?_, ?_⟩
          · rw [e1, List.append_nil]
            show (st f i).wt ++ [(i : Int)] = _
            rw [eW]
          · intro x hx
            rcases List.mem_append.mp hx with q | q
            · exact hwl x q
            · rw [List.mem_singleton] at q
              rw [q]
              exact hiL
          · rw [eL2, eL, e1, List.append_assoc]
          · rw [flip_in hiL, e1, eL2]
            have tm := up_take_mem upL hiL j
            generalize L.filter (fun y => decide (y < (i : Int))) = Li at *
            cases hc : (L.take j).contains (i : Int) with
            | true =>
              have lt := tm.mp (List.contains_iff_mem.mp hc)
              rw [stp_alone (by dsimp only; rw [List.drop_of_length_le (by omega)]; rfl)]
              dsimp only
              rw [List.take_of_length_le (by omega), List.take_of_length_le (by rw [List.length_append, List.length_singleton]; omega), List.drop_of_length_le (by rw [List.length_append, List.length_singleton]; omega)]
              rfl
            | false =>
              have ge : ¬ Li.length < j := fun z => by
                rw [List.contains_iff_mem.mpr (tm.mpr z)] at hc
                cases hc
              rw [stp_no]
              dsimp only
              rw [List.take_append_of_le_length (by omega), List.drop_append_of_le_length (by omega), List.append_nil, List.append_nil]
        · refine ⟨wl, pd ++ [(i : Int)], ?_, hwl, ?_, ?_, ?_⟩
          · rw [e1]
            show (st f i).wt ++ [(i : Int)] = _
            rw [eW, List.append_assoc]
          · intro x hx
            rcases List.mem_append.mp hx with q | q
            · exact hpd x q
            · rw [List.mem_singleton] at q
              rw [q]
              exact hiL
          · rw [filter_succ_no hiL, eL, e1]
          · rw [flip_out hiL, hf, stp_no, filter_succ_no hiL, e1]
            dsimp only
            rw [List.append_assoc]
      | true =>
        rw [hf] at e1
        rcases snoc_cases (st f i).wt with q | ⟨r, w, q⟩
        · rw [stp_alone q] at e1
          rw [q] at eW
          obtain ⟨rfl, rfl⟩ := List.append_eq_nil_iff.mp eW.symm
          rw [List.append_nil] at eL
          have iA : (i : Int) ∈ (st f n).aln := sA.subset (by rw [e1]; exact List.mem_append_right _ (List.mem_singleton.mpr rfl))
          have hiL : (i : Int) ∈ L := (memL i).mpr (.inl iA)
          have eL2 := up_filter_succ upL hiL
          refine ⟨[], [], by rw [e1]; rfl, (fun x h => nomatch h), (fun x h => nomatch h), by rw [eL2, eL, e1, List.append_nil], ?_⟩
          rw [flip_in hiL, e1, eL2]
          have tm := up_take_mem upL hiL j
          generalize L.filter (fun y => decide (y < (i : Int))) = Li at *
          cases hc : (L.take j).contains (i : Int) with
          | true =>
            have lt := tm.mp (List.contains_iff_mem.mp hc)
            rw [stp_alone (by dsimp only; rw [List.drop_of_length_le (by omega)]; rfl)]
            dsimp only
            rw [List.take_of_length_le (by omega), List.take_of_length_le (by rw [List.length_append, List.length_singleton]; omega), List.drop_of_length_le (by rw [List.length_append, List.length_singleton]; omega)]
            rfl
          | false =>
            have ge : ¬ Li.length < j := fun z => by
              rw [List.contains_iff_mem.mpr (tm.mpr z)] at hc
              cases hc
            rw [stp_no]
            dsimp only
            rw [List.take_append_of_le_length (by omega), List.drop_append_of_le_length (by omega), List.append_nil, List.append_nil]
        · rw [stp_pop q] at e1
          have wF : w ∈ firsts (st f n).prs := firsts_sub sP (by rw [e1]; exact mem_firsts.mpr ⟨i, List.mem_append_right _ (List.mem_singleton.mpr rfl)⟩)
          have iS : (i : Int) ∈ seconds (st f n).prs := seconds_sub sP (by rw [e1]; exact mem_seconds.mpr ⟨w, List.mem_append_right _ (List.mem_singleton.mpr rfl)⟩)
          have wL : w ∉ L := fun z => by
            rcases (memL w).mp z with z | z
            · obtain ⟨y, hy⟩ := mem_firsts.mp wF
              have h1 := (on.fst _ hy).2.2.2.1
              have h2 := (aln_iff.mp z).2.1
              dsimp only at h1
              rw [h1] at h2
              cases h2
            · exact (wt_iff.mp z).2.2 wF
          have iL : (i : Int) ∉ L := fun z => by
            rcases (memL i).mp z with z | z
            · exact (aln_iff.mp z).2.2 iS
            · have h2 := (wt_iff.mp z).2.1
              rw [hf] at h2
              cases h2
          rcases snoc_cases pd with z | ⟨pd', w', z⟩
          · subst z
            rw [List.append_nil] at eW
            exact absurd (hwl w (by rw [← eW, q]; exact List.mem_append_right _ (List.mem_singleton.mpr rfl))) wL
          · subst z
            rw [q, ← List.append_assoc] at eW
            have ew : w = w' := by simpa using List.append_inj_right' eW rfl
            have er : r = wl ++ pd' := List.append_inj_left' eW rfl
            subst ew
            refine ⟨wl, pd', ?_, hwl, fun x hx => hpd x (List.mem_append_left _ hx), ?_, ?_⟩
            · rw [e1]
              exact er
            · rw [filter_succ_no iL, eL, e1]
            · rw [flip_out iL, hf, stp_pop (r := (L.filter (fun y => decide (y < (i : Int)))).drop j ++ pd') (w := w) (by dsimp only; rw [List.append_assoc]), filter_succ_no iL, e1]
  obtain ⟨wl, pd, eW, hwl, hpd, eL, eS⟩ := main n (Nat.le_refl n)
  have pd0 : pd = [] := by
    cases pd with
    | nil => rfl
    | cons y r => exact absurd ((memL y).mpr (.inr (by rw [eW]; exact List.mem_append_right _ (List.mem_cons_self ..)))) (hpd y (List.mem_cons_self ..))
  subst pd0
  rw [List.append_nil] at eW
  have eLn : L.filter (fun y => decide (y < (n : Int))) = L := by
    rw [eL, ← eW]
    exact hL
  rw [eLn, List.append_nil] at eS
  exact eS
end SC
namespace SC
/-! ### the sets of a chain -/
theorem mem_filter_irange {n : Nat} {p : Int → Bool} {i : Nat} (h : i < n) : mem ((irange n).filter p) (i : Int) = p i := by
  cases e : p (i : Int) with
  | true => exact mem_true.mpr (List.mem_filter.mpr ⟨mem_irange.mpr (by omega), e⟩)
  | false =>
    refine mem_false.mpr fun z => ?_
    have := (List.mem_filter.mp z).2
    rw [e] at this
    cases this
def loo (n : Nat) (ms : List Int) : List Int := lse (fin n ms)
/-- the set of its chain with the first j of the loose things -/
def cset (n : Nat) (ms : List Int) (j : Nat) : List Int := (irange n).filter (flip (mem ms) (loo n ms) j)
theorem cset_set (n : Nat) (ms : List Int) (j : Nat) : IsSet n (cset n ms j) := isSet_of _
theorem cset_fin (n : Nat) (ms : List Int) (j : Nat) : fin n (cset n ms j) = ⟨(fin n ms).prs, (loo n ms).take j, (loo n ms).drop j⟩ := by
  unfold fin cset
  rw [st_congr fun i hi => mem_filter_irange hi]
  exact chain_st (mem ms) n j
theorem cset_loo (n : Nat) (ms : List Int) (j : Nat) : loo n (cset n ms j) = loo n ms := by
  unfold loo lse
  rw [cset_fin]
  dsimp only
  rw [List.take_append_drop]
  rfl
theorem loo_up (n : Nat) (ms : List Int) : Up (loo n ms) := lse_up (mem ms) n
theorem loo_mem {n : Nat} {ms : List Int} {x : Int} : x ∈ loo n ms ↔ x ∈ (fin n ms).aln ∨ x ∈ (fin n ms).wt := List.mem_append
theorem loo_len (n : Nat) (ms : List Int) : (loo n ms).length = (fin n ms).aln.length + (fin n ms).wt.length := List.length_append
theorem fin_sum (n : Nat) (ms : List Int) : 2 * (fin n ms).prs.length + (fin n ms).aln.length + (fin n ms).wt.length = n := (ok_st (mem ms) n).sum
theorem fin_aln_iff {n : Nat} {ms : List Int} {x : Int} : x ∈ (fin n ms).aln ↔ (0 ≤ x ∧ x < n) ∧ x ∈ ms ∧ x ∉ seconds (fin n ms).prs := by
  unfold fin
  rw [aln_iff, mem_true]
theorem fin_wt_iff {n : Nat} {ms : List Int} {x : Int} : x ∈ (fin n ms).wt ↔ (0 ≤ x ∧ x < n) ∧ x ∉ ms ∧ x ∉ firsts (fin n ms).prs := by
  unfold fin
  rw [wt_iff, mem_false]
theorem cset_mem {n : Nat} {ms : List Int} {j : Nat} {x : Int} : x ∈ cset n ms j ↔ (0 ≤ x ∧ x < n) ∧ ((x ∈ loo n ms ∧ x ∈ (loo n ms).take j) ∨ (x ∉ loo n ms ∧ x ∈ ms)) := by
  unfold cset
  rw [List.mem_filter, mem_irange]
  by_cases h : x ∈ loo n ms
  · rw [flip_in h, List.contains_iff_mem]
    simp [h]
  · rw [flip_out h, mem_true]
    simp [h]
theorem cset_self {n : Nat} {ms : List Int} (h : IsSet n ms) : cset n ms (fin n ms).aln.length = ms := by
  refine up_ext (cset_set n ms _).up h.up fun x => ?_
  have et : (loo n ms).take (fin n ms).aln.length = (fin n ms).aln := List.take_left' rfl
  rw [cset_mem, et]
  constructor
  · rintro ⟨_, ⟨_, q⟩ | ⟨_, q⟩⟩
    · exact (fin_aln_iff.mp q).2.1
    · exact q
  · intro q
    refine ⟨⟨h.lo x q, h.hi x q⟩, ?_⟩
    by_cases z : x ∈ loo n ms
    · refine .inl ⟨z, ?_⟩
      rcases loo_mem.mp z with z | z
      · exact z
      · exact absurd q (fin_wt_iff.mp z).2.1
    · exact .inr ⟨z, q⟩
theorem loo_bd {n : Nat} {ms : List Int} {x : Int} (h : x ∈ loo n ms) : 0 ≤ x ∧ x < n := by
  rcases loo_mem.mp h with z | z
  · exact (fin_aln_iff.mp z).1
  · exact (fin_wt_iff.mp z).1
/-- one thing more -/
theorem cset_next {n : Nat} {ms : List Int} {j : Nat} {x : Int} (h : (loo n ms)[j]? = some x) : isort (cset n ms j ++ [x]) = cset n ms (j + 1) := by
  have hx : x ∈ loo n ms := List.mem_of_getElem? h
  have et : (loo n ms).take (j + 1) = (loo n ms).take j ++ [x] := by
    rw [List.take_add_one, h]
    rfl
  have nx : x ∉ (loo n ms).take j := by
    have u := up_take (loo_up n ms) (j + 1)
    rw [et] at u
    intro z
    have := (up_last u).1 x z
    omega
  have nd : (cset n ms j ++ [x]).Nodup := by
    refine List.nodup_append.mpr ⟨up_nodup (cset_set n ms j).up, by simp, fun a ha b hb e => ?_⟩
    rw [List.mem_singleton] at hb
    subst hb e
    rcases (cset_mem.mp ha).2 with ⟨_, q⟩ | ⟨q, _⟩
    · exact nx q
    · exact q hx
  refine up_ext (isort_up nd) (cset_set n ms _).up fun y => ?_
  rw [isort_mem, List.mem_append, List.mem_singleton, cset_mem, cset_mem, et, List.mem_append, List.mem_singleton]
  constructor
  · rintro (⟨a, ⟨b, c⟩ | ⟨b, c⟩⟩ | rfl)
    · exact ⟨a, .inl ⟨b, .inl c⟩⟩
    · exact ⟨a, .inr ⟨b, c⟩⟩
    · exact ⟨loo_bd hx, .inl ⟨hx, .inr rfl⟩⟩
  · rintro ⟨a, ⟨b, c | c⟩ | ⟨b, c⟩⟩
    · exact .inl ⟨a, .inl ⟨b, c⟩⟩
    · exact .inr c
    · exact .inl ⟨a, .inr ⟨b, c⟩⟩
/-- one thing less -/
theorem cset_prev {n : Nat} {ms : List Int} {j : Nat} {x : Int} (h : (loo n ms)[j]? = some x) : (cset n ms (j + 1)).filter (fun y => y != x) = cset n ms j := by
  have hx : x ∈ loo n ms := List.mem_of_getElem? h
  have et : (loo n ms).take (j + 1) = (loo n ms).take j ++ [x] := by
    rw [List.take_add_one, h]
    rfl
  have nx : x ∉ (loo n ms).take j := by
    have u := up_take (loo_up n ms) (j + 1)
    rw [et] at u
    intro z
    have := (up_last u).1 x z
    omega
  refine up_ext (up_filter (cset_set n ms _).up _) (cset_set n ms _).up fun y => ?_
  rw [List.mem_filter, cset_mem, cset_mem, et, List.mem_append, List.mem_singleton]
  have ne : (y != x) = true ↔ y ≠ x := by simp
  rw [ne]
  constructor
  · rintro ⟨⟨a, ⟨b, c | c⟩ | ⟨b, c⟩⟩, d⟩
    · exact ⟨a, .inl ⟨b, c⟩⟩
    · exact absurd c d
    · exact ⟨a, .inr ⟨b, c⟩⟩
  · rintro ⟨a, ⟨b, c⟩ | ⟨b, c⟩⟩
    · exact ⟨⟨a, .inl ⟨b, .inl c⟩⟩, fun e => nx (e ▸ c)⟩
    · exact ⟨⟨a, .inr ⟨b, c⟩⟩, fun e => b (e ▸ hx)⟩
theorem cset_cset (n : Nat) (ms : List Int) (j i : Nat) : cset n (cset n ms j) i = cset n ms i := by
  refine up_ext (cset_set _ _ _).up (cset_set _ _ _).up fun x => ?_
  rw [cset_mem, cset_mem, cset_loo, cset_mem]
  constructor
  · rintro ⟨a, b | ⟨b, c⟩⟩
    · exact ⟨a, .inl b⟩
    · rcases c.2 with ⟨d, _⟩ | ⟨_, d⟩
      · exact absurd d b
      · exact ⟨a, .inr ⟨b, d⟩⟩
  · rintro ⟨a, b | ⟨b, c⟩⟩
    · exact ⟨a, .inl b⟩
    · exact ⟨a, .inr ⟨b, a, .inr ⟨b, c⟩⟩⟩
theorem cset_zero {n : Nat} {ms : List Int} (h : IsSet n ms) : ms.filter (fun x => !(fin n ms).aln.contains x) = cset n ms 0 := by
  refine up_ext (up_filter h.up _) (cset_set _ _ _).up fun x => ?_
  rw [List.mem_filter, cset_mem, Bool.not_eq_true', show ((fin n ms).aln.contains x = false ↔ x ∉ (fin n ms).aln) from mem_false, List.take_zero]
  constructor
  · rintro ⟨a, b⟩
    refine ⟨⟨h.lo x a, h.hi x a⟩, .inr ⟨fun z => ?_, a⟩⟩
    rcases loo_mem.mp z with z | z
    · exact b z
    · exact (fin_wt_iff.mp z).2.1 a
  · rintro ⟨a, ⟨_, b⟩ | ⟨b, c⟩⟩
    · exact nomatch b
    · exact ⟨c, fun z => b (loo_mem.mpr (.inl z))⟩
/-- how many things are in it -/
theorem set_len {n : Nat} {ms : List Int} (h : IsSet n ms) : ms.length = (fin n ms).prs.length + (fin n ms).aln.length := by
  have o := ok_st (mem ms) n
  have e1 : (seconds (fin n ms).prs).length = (fin n ms).prs.length := List.length_map _
  have p : (seconds (fin n ms).prs ++ (fin n ms).aln).Perm ms := by
    refine (List.perm_ext_iff_of_nodup ?_ (up_nodup h.up)).mpr fun x => ?_
    · refine List.nodup_append.mpr ⟨up_nodup o.nd2, up_nodup (fin_aln_set ms).up, fun a ha b hb e => ?_⟩
      subst e
      exact (fin_aln_iff.mp hb).2.2 ha
    · rw [List.mem_append, fin_aln_iff]
      constructor
      · rintro (q | q)
        · obtain ⟨y, hy⟩ := mem_seconds.mp q
          exact mem_true.mp (o.fst _ hy).2.2.2.2
        · exact q.2.1
      · intro q
        by_cases z : x ∈ seconds (fin n ms).prs
        · exact .inl z
        · exact .inr ⟨⟨h.lo x q, h.hi x q⟩, q, z⟩
  have := p.length_eq
  rw [List.length_append, e1] at this
  exact this.symm
theorem cset_len {n : Nat} {ms : List Int} {j : Nat} (h : j ≤ (loo n ms).length) : (cset n ms j).length = (fin n ms).prs.length + j := by
  rw [set_len (cset_set n ms j), cset_fin]
  dsimp only
  rw [List.length_take, Nat.min_eq_left h]
/-- the set above, the set below -/
def aboveL (n : Nat) (ms : List Int) : Option (List Int) := match (fin n ms).wt with
  | [] => none
  | w :: _ => some (isort (ms ++ [w]))
def belowL (n : Nat) (ms : List Int) : Option (List Int) := match (fin n ms).aln.getLast? with
  | none => none
  | some x => some (ms.filter fun y => y != x)
theorem aboveL_nil {n : Nat} {ms : List Int} (h : (fin n ms).wt = []) : aboveL n ms = none := by unfold aboveL; rw [h]
theorem aboveL_cons {n : Nat} {ms r : List Int} {w : Int} (h : (fin n ms).wt = w :: r) : aboveL n ms = some (isort (ms ++ [w])) := by unfold aboveL; rw [h]
theorem belowL_nil {n : Nat} {ms : List Int} (h : (fin n ms).aln = []) : belowL n ms = none := by unfold belowL; rw [h]; rfl
theorem belowL_snoc {n : Nat} {ms r : List Int} {x : Int} (h : (fin n ms).aln = r ++ [x]) : belowL n ms = some (ms.filter fun y => y != x) := by unfold belowL; rw [h, List.getLast?_concat]
theorem aboveL_cset {n : Nat} {ms : List Int} (h : IsSet n ms) {w : Int} {r : List Int} (e : (fin n ms).wt = w :: r) : isort (ms ++ [w]) = cset n ms ((fin n ms).aln.length + 1) := by
  have g : (loo n ms)[(fin n ms).aln.length]? = some w := by
    show ((fin n ms).aln ++ (fin n ms).wt)[_]? = _
    rw [e, List.getElem?_append_right (Nat.le_refl _), Nat.sub_self]
    rfl
  have := cset_next g
  rw [cset_self h] at this
  exact this
theorem belowL_cset {n : Nat} {ms : List Int} (h : IsSet n ms) {x : Int} {r : List Int} (e : (fin n ms).aln = r ++ [x]) : ms.filter (fun y => y != x) = cset n ms r.length := by
  have g : (loo n ms)[r.length]? = some x := by
    show ((fin n ms).aln ++ (fin n ms).wt)[_]? = _
    rw [e, List.append_assoc, List.getElem?_append_right (Nat.le_refl _), Nat.sub_self]
    rfl
  have := cset_prev g
  have el : (fin n ms).aln.length = r.length + 1 := by rw [e, List.length_append, List.length_singleton]
  rw [← el, cset_self h] at this
  exact this
/-- up, then down -/
theorem below_above {n : Nat} {ms u : List Int} (h : IsSet n ms) (e : aboveL n ms = some u) : IsSet n u ∧ belowL n u = some ms := by
  cases hw : (fin n ms).wt with
  | nil => rw [aboveL_nil hw] at e; cases e
  | cons w r =>
    rw [aboveL_cons hw] at e
    cases e
    rw [aboveL_cset h hw]
    have g : (loo n ms)[(fin n ms).aln.length]? = some w := by
      show ((fin n ms).aln ++ (fin n ms).wt)[_]? = _
      rw [hw, List.getElem?_append_right (Nat.le_refl _), Nat.sub_self]
      rfl
    refine ⟨cset_set _ _ _, ?_⟩
    have ea : (fin n (cset n ms ((fin n ms).aln.length + 1))).aln = (loo n ms).take (fin n ms).aln.length ++ [w] := by
      rw [cset_fin]
      dsimp only
      rw [List.take_add_one, g]
      rfl
    rw [belowL_snoc ea, cset_prev g, cset_self h]
theorem above_below {n : Nat} {ms u : List Int} (h : IsSet n ms) (e : belowL n ms = some u) : IsSet n u ∧ aboveL n u = some ms := by
  rcases snoc_cases (fin n ms).aln with ha | ⟨r, x, ha⟩
  · rw [belowL_nil ha] at e; cases e
  · rw [belowL_snoc ha] at e
    cases e
    rw [belowL_cset h ha]
    have g : (loo n ms)[r.length]? = some x := by
      show ((fin n ms).aln ++ (fin n ms).wt)[_]? = _
      rw [ha, List.append_assoc, List.getElem?_append_right (Nat.le_refl _), Nat.sub_self]
      rfl
    refine ⟨cset_set _ _ _, ?_⟩
    have ew : (fin n (cset n ms r.length)).wt = x :: (loo n ms).drop (r.length + 1) := by
      rw [cset_fin]
      dsimp only
      rw [List.drop_eq_getElem?_toList_append, g]
      rfl
    have el : (fin n ms).aln.length = r.length + 1 := by rw [ha, List.length_append, List.length_singleton]
    rw [aboveL_cons ew, cset_next g, ← el, cset_self h]
end SC
namespace SC
/-- the chain -/
def chainL (n : Nat) (ms : List Int) : List (List Int) := (List.range ((loo n ms).length + 1)).map (cset n ms)
theorem chainL_len (n : Nat) (ms : List Int) : (chainL n ms).length = (loo n ms).length + 1 := by simp [chainL]
theorem chainL_get {n : Nat} {ms : List Int} {j : Nat} (h : j ≤ (loo n ms).length) : (chainL n ms)[j]? = some (cset n ms j) := by
  unfold chainL
  rw [List.getElem?_map, List.getElem?_range (by omega)]
  rfl
theorem chainL_mem {n : Nat} {ms r : List Int} (h : r ∈ chainL n ms) : ∃ j, j ≤ (loo n ms).length ∧ r = cset n ms j := by
  obtain ⟨j, hj, e⟩ := List.mem_map.mp h
  exact ⟨j, by have := List.mem_range.mp hj; omega, e.symm⟩
theorem chainL_cset (n : Nat) (ms : List Int) (j : Nat) : chainL n (cset n ms j) = chainL n ms := by
  unfold chainL
  rw [cset_loo]
  refine List.map_congr_left fun i _ => cset_cset n ms j i
theorem chainL_self {n : Nat} {ms : List Int} (h : IsSet n ms) : ms ∈ chainL n ms := by
  have l := loo_len n ms
  have g := chainL_get (n := n) (ms := ms) (j := (fin n ms).aln.length) (by omega)
  rw [cset_self h] at g
  exact List.mem_of_getElem? g
/-- what is in the next set alone -/
theorem cset_more {n : Nat} {ms : List Int} {j : Nat} {x : Int} (h : (loo n ms)[j]? = some x) : (cset n ms (j + 1)).filter (fun y => !(cset n ms j).contains y) = [x] := by
  have hx : x ∈ loo n ms := List.mem_of_getElem? h
  have et : (loo n ms).take (j + 1) = (loo n ms).take j ++ [x] := by
    rw [List.take_add_one, h]
    rfl
  have nx : x ∉ (loo n ms).take j := by
    have u := up_take (loo_up n ms) (j + 1)
    rw [et] at u
    intro z
    have := (up_last u).1 x z
    omega
  refine up_ext (up_filter (cset_set _ _ _).up _) (List.pairwise_singleton _ _) fun y => ?_
  rw [List.mem_filter, Bool.not_eq_true', show ((cset n ms j).contains y = false ↔ y ∉ cset n ms j) from mem_false, List.mem_singleton, cset_mem, cset_mem, et, List.mem_append, List.mem_singleton]
  constructor
  · rintro ⟨⟨a, ⟨b, c | c⟩ | ⟨b, c⟩⟩, d⟩
    · exact absurd ⟨a, .inl ⟨b, c⟩⟩ d
    · exact c
    · exact absurd ⟨a, .inr ⟨b, c⟩⟩ d
  · rintro rfl
    refine ⟨⟨loo_bd hx, .inl ⟨hx, .inr rfl⟩⟩, ?_⟩
    rintro ⟨_, ⟨_, c⟩ | ⟨c, _⟩⟩
    · exact nx c
    · exact c hx
end SC
namespace SC
/-! ### numbers of the bottoms -/
theorem pk_pascal {r : Nat} (c : Int) : picks ((r : Int) + 1) c = picks r c + picks r (c - 1) := by
  by_cases h : c < 0
  · unfold picks
    rw [if_pos (.inl h), if_pos (.inl h), if_pos (.inl (by omega))]
    rfl
  · obtain ⟨k, rfl⟩ : ∃ k : Nat, c = (k : Int) := ⟨c.toNat, by omega⟩
    have e : ((r : Int) + 1) = ((r + 1 : Nat) : Int) := by omega
    rw [e, picks_nat, picks_nat]
    cases k with
    | zero =>
      rw [ch_zero, ch_zero]
      unfold picks
      rw [if_pos (.inl (by omega))]
      rfl
    | succ k =>
      have e2 : (((k + 1 : Nat) : Int) - 1) = (k : Int) := by omega
      rw [e2, picks_nat]
      show ((ch r k + ch r (k + 1) : Nat) : Int) = _
      omega
theorem pk_neg {t c : Int} (h : c < 0) : picks t c = 0 := if_pos (.inl h)
/-- rows of so many things, so many of them closing, where so many wait -/
def en (r c w : Int) : Int := picks r c - picks r (c - w - 1)
theorem en_step {r : Nat} (c w : Int) : en ((r : Int) + 1) c w = en r c (w + 1) + en r (c - 1) (w - 1) := by
  unfold en
  rw [pk_pascal, pk_pascal]
  have e1 : c - (w + 1) - 1 = c - w - 1 - 1 := by omega
  have e2 : c - 1 - (w - 1) - 1 = c - w - 1 := by omega
  rw [e1, e2]
  omega
theorem en_off (r c : Int) : en r c (-1) = 0 := by
  unfold en
  rw [show c - -1 - 1 = c by omega]
  omega
theorem pk_zero (c : Int) : picks 0 c = if c = 0 then 1 else 0 := by
  by_cases h : c = 0
  · subst h
    rfl
  · rw [if_neg h]
    exact if_pos (by omega)
theorem en_zero {c w : Int} (hw : 0 ≤ w) (h : 0 ≤ w - 2 * c) : en 0 c w = if c = 0 then 1 else 0 := by
  unfold en
  rw [pk_zero, pk_zero, if_neg (show ¬ c - w - 1 = 0 by omega)]
  omega
theorem en_nn : ∀ (r : Nat) (c w : Int), -1 ≤ w → -1 ≤ w + r - 2 * c → 0 ≤ en r c w
  | 0, c, w, h1, h2 => by
    by_cases hw : w = -1
    · rw [hw, en_off]
      omega
    · unfold en
      show 0 ≤ picks 0 c - picks 0 (c - w - 1)
      rw [pk_zero, pk_zero, if_neg (show ¬ c - w - 1 = 0 by omega)]
      split <;> omega
  | r + 1, c, w, h1, h2 => by
    by_cases hw : w = -1
    · rw [hw, en_off]
      omega
    · have := en_nn r c (w + 1) (by omega) (by omega)
      have := en_nn r (c - 1) (w - 1) (by omega) (by omega)
      rw [show (((r + 1 : Nat) : Int)) = (r : Int) + 1 by omega, en_step]
      omega
/-- the row with a number -/
def bw : Nat → Int → Int → Int → List Bool
  | 0, _, _, _ => []
  | r + 1, c, w, k => if k < en r c (w + 1) then false :: bw r c (w + 1) k else true :: bw r (c - 1) (w - 1) (k - en r c (w + 1))
/-- the number of a row -/
def nw : List Bool → Int → Int → Int
  | [], _, _ => 0
  | false :: l, c, w => nw l c (w + 1)
  | true :: l, c, w => en l.length c (w + 1) + nw l (c - 1) (w - 1)
/-- nothing closes what does not wait -/
def okW : List Bool → Int → Int → Prop
  | [], c, _ => c = 0
  | false :: l, c, w => okW l c (w + 1)
  | true :: l, c, w => 1 ≤ w ∧ okW l (c - 1) (w - 1)
theorem bw_len : ∀ (r : Nat) (c w k : Int), (bw r c w k).length = r
  | 0, _, _, _ => rfl
  | r + 1, c, w, k => by
    unfold bw
    split
    · rw [List.length_cons, bw_len r]
    · rw [List.length_cons, bw_len r]
theorem bw_ok : ∀ (r : Nat) (c w k : Int), 0 ≤ w → 0 ≤ w + r - 2 * c → 0 ≤ k → k < en r c w → okW (bw r c w k) c w ∧ nw (bw r c w k) c w = k
  | 0, c, w, k, hw, hf, h1, h2 => by
    have e := en_zero hw (by omega : 0 ≤ w - 2 * c)
    have e' : en ((0 : Nat) : Int) c w = en 0 c w := rfl
    rw [e', e] at h2
    by_cases hc : c = 0
    · rw [if_pos hc] at h2
      refine ⟨hc, ?_⟩
      show (0 : Int) = k
      omega
    · rw [if_neg hc] at h2
      omega
  | r + 1, c, w, k, hw, hf, h1, h2 => by
    rw [show (((r + 1 : Nat) : Int)) = (r : Int) + 1 by omega, en_step] at h2
    unfold bw
    split
    · rename_i h
      exact bw_ok r c (w + 1) k (by omega) (by omega) h1 h
    · rename_i h
      have hw1 : 1 ≤ w := by
        by_cases z : w = 0
        · subst z
          have := en_off r (c - 1)
          have e : (0 : Int) - 1 = -1 := rfl
          rw [e] at h2
          omega
        · omega
      obtain ⟨a, b⟩ := bw_ok r (c - 1) (w - 1) (k - en r c (w + 1)) (by omega) (by omega) (by omega) (by omega)
      refine ⟨⟨hw1, a⟩, ?_⟩
      show en (bw r (c - 1) (w - 1) (k - en r c (w + 1))).length c (w + 1) + nw (bw r (c - 1) (w - 1) (k - en r c (w + 1))) (c - 1) (w - 1) = k
      rw [b, bw_len]
      omega
theorem okW_end : ∀ (l : List Bool) (c w : Int), 0 ≤ w → okW l c w → 0 ≤ w + l.length - 2 * c
  | [], c, w, hw, h => by
    have h : c = 0 := h
    subst h
    simp
    exact hw
  | false :: l, c, w, hw, h => by
    have := okW_end l c (w + 1) (by omega) h
    rw [List.length_cons]
    omega
  | true :: l, c, w, hw, h => by
    obtain ⟨h1, h2⟩ := h
    have := okW_end l (c - 1) (w - 1) (by omega) h2
    rw [List.length_cons]
    omega
theorem nw_ok : ∀ (l : List Bool) (c w : Int), 0 ≤ w → okW l c w → 0 ≤ nw l c w ∧ nw l c w < en l.length c w ∧ bw l.length c w (nw l c w) = l
  | [], c, w, hw, h => by
    have h : c = 0 := h
    subst h
    have e := en_zero hw (by omega : 0 ≤ w - 2 * 0)
    refine ⟨Int.le_refl _, ?_, rfl⟩
    show (0 : Int) < en 0 0 w
    rw [e]
    decide
  | false :: l, c, w, hw, h => by
    obtain ⟨a, b, d⟩ := nw_ok l c (w + 1) (by omega) h
    have f := okW_end l c (w + 1) (by omega) h
    have e : nw (false :: l) c w = nw l c (w + 1) := rfl
    have el : (((false :: l).length : Nat) : Int) = (l.length : Int) + 1 := by rw [List.length_cons]; omega
    rw [e, el, en_step]
    refine ⟨a, ?_, ?_⟩
    · have := en_nn l.length (c - 1) (w - 1) (by omega) (by omega)
      omega
    · rw [List.length_cons]
      unfold bw
      rw [if_pos b, d]
  | true :: l, c, w, hw, h => by
    obtain ⟨h1, h2⟩ := h
    obtain ⟨a, b, d⟩ := nw_ok l (c - 1) (w - 1) (by omega) h2
    have f := okW_end l (c - 1) (w - 1) (by omega) h2
    have e : nw (true :: l) c w = en l.length c (w + 1) + nw l (c - 1) (w - 1) := rfl
    have el : (((true :: l).length : Nat) : Int) = (l.length : Int) + 1 := by rw [List.length_cons]; omega
    have nn := en_nn l.length c (w + 1) (by omega) (by omega)
    rw [e, el, en_step]
    refine ⟨by omega, by omega, ?_⟩
    rw [List.length_cons]
    unfold bw
    rw [if_neg (by omega), show en (↑l.length) c (w + 1) + nw l (c - 1) (w - 1) - en (↑l.length) c (w + 1) = nw l (c - 1) (w - 1) by omega, d]
/-- the greater number has the first thing that is in just one -/
theorem bw_lex : ∀ (r : Nat) (c w k k' : Int), 0 ≤ w → 0 ≤ w + r - 2 * c → 0 ≤ k → k < k' → k' < en r c w → ∃ p q q', bw r c w k = p ++ false :: q ∧ bw r c w k' = p ++ true :: q'
  | 0, c, w, k, k', hw, hf, h0, h1, h2 => by
    have e := en_zero hw (by omega : 0 ≤ w - 2 * c)
    have e' : en ((0 : Nat) : Int) c w = en 0 c w := rfl
    rw [e', e] at h2
    split at h2 <;> omega
  | r + 1, c, w, k, k', hw, hf, h0, h1, h2 => by
    rw [show (((r + 1 : Nat) : Int)) = (r : Int) + 1 by omega, en_step] at h2
    unfold bw
    by_cases z : k' < en r c (w + 1)
    · rw [if_pos z, if_pos (by omega)]
      obtain ⟨p, q, q', e1, e2⟩ := bw_lex r c (w + 1) k k' (by omega) (by omega) h0 h1 z
      exact ⟨false :: p, q, q', by rw [e1]; rfl, by rw [e2]; rfl⟩
    · rw [if_neg z]
      by_cases y : k < en r c (w + 1)
      · rw [if_pos y]
        exact ⟨[], _, _, rfl, rfl⟩
      · rw [if_neg y]
        have hw1 : 1 ≤ w := by
          by_cases z : w = 0
          · subst z
            have := en_off r (c - 1)
            have e : (0 : Int) - 1 = -1 := rfl
            rw [e] at h2
            omega
          · omega
        obtain ⟨p, q, q', e1, e2⟩ := bw_lex r (c - 1) (w - 1) (k - en r c (w + 1)) (k' - en r c (w + 1)) (by omega) (by omega) (by omega) (by omega) (by omega)
        exact ⟨true :: p, q, q', by rw [e1]; rfl, by rw [e2]; rfl⟩
/-! ### rows and sets -/
/-- the members of a row -/
def tr (l : List Bool) : List Int := (irange l.length).filter fun x => l.getD x.toNat false
theorem tr_set (l : List Bool) : IsSet l.length (tr l) := isSet_of _
theorem tr_mem {l : List Bool} {x : Int} : x ∈ tr l ↔ 0 ≤ x ∧ l[x.toNat]? = some true := by
  unfold tr
  rw [List.mem_filter, mem_irange, List.getD_eq_getElem?_getD]
  constructor
  · rintro ⟨⟨h1, h2⟩, h3⟩
    refine ⟨h1, ?_⟩
    cases e : l[x.toNat]? with
    | none => rw [e] at h3; cases h3
    | some b =>
      rw [e] at h3
      have : b = true := h3
      rw [this]
  · rintro ⟨h1, h2⟩
    have := (List.getElem?_eq_some_iff.mp h2).1
    refine ⟨⟨h1, by omega⟩, ?_⟩
    rw [h2]
    rfl
theorem tr_snoc (l : List Bool) (b : Bool) : tr (l ++ [b]) = if b = true then tr l ++ [(l.length : Int)] else tr l := by
  have up : Up (if b = true then tr l ++ [(l.length : Int)] else tr l) := by
    split
    · refine List.pairwise_append.mpr ⟨(tr_set l).up, List.pairwise_singleton _ _, fun a ha c hc => ?_⟩
      rw [List.mem_singleton] at hc
      have := (tr_set l).hi a ha
      omega
    · exact (tr_set l).up
  refine up_ext (tr_set _).up up fun x => ?_
  rw [tr_mem]
  by_cases hx : x.toNat < l.length
  · rw [List.getElem?_append_left hx]
    split
    · rw [List.mem_append, tr_mem, List.mem_singleton]
      constructor
      · exact fun h => .inl h
      · rintro (h | h)
        · exact h
        · omega
    · rw [tr_mem]
  · rw [List.getElem?_append_right (by omega)]
    have nl : x ∉ tr l := fun h => by
      have h1 := (tr_set l).lo x h
      have h2 := (tr_set l).hi x h
      omega
    by_cases ex : x.toNat = l.length
    · rw [ex, Nat.sub_self]
      cases b with
      | false =>
        rw [if_neg (by decide)]
        constructor
        · rintro ⟨_, h⟩
          cases h
        · exact fun h => absurd h nl
      | true =>
        rw [if_pos rfl, List.mem_append, List.mem_singleton]
        constructor
        · rintro ⟨h, _⟩
          exact .inr (by omega)
        · rintro (h | h)
          · exact absurd h nl
          · exact ⟨by omega, rfl⟩
    · have e : ([b] : List Bool)[x.toNat - l.length]? = none := List.getElem?_eq_none (by rw [List.length_singleton]; omega)
      rw [e]
      constructor
      · rintro ⟨_, h⟩
        cases h
      · intro h
        split at h
        · rcases List.mem_append.mp h with h | h
          · exact absurd h nl
          · rw [List.mem_singleton] at h
            omega
        · exact absurd h nl
/-- the row of a set -/
def wd (n : Nat) (ms : List Int) : List Bool := (irange n).map (mem ms)
theorem wd_len (n : Nat) (ms : List Int) : (wd n ms).length = n := by unfold wd; rw [List.length_map, irange_len]
theorem wd_get {n i : Nat} {ms : List Int} (h : i < n) : (wd n ms)[i]? = some (mem ms i) := by
  unfold wd
  rw [List.getElem?_map, irange_get h]
  rfl
theorem tr_wd {n : Nat} {ms : List Int} (h : IsSet n ms) : tr (wd n ms) = ms := by
  refine up_ext (tr_set _).up h.up fun x => ?_
  rw [tr_mem]
  constructor
  · rintro ⟨h1, h2⟩
    have hl := (List.getElem?_eq_some_iff.mp h2).1
    rw [wd_len] at hl
    rw [wd_get hl] at h2
    have h3 := Option.some.inj h2
    rw [show ((x.toNat : Nat) : Int) = x by omega] at h3
    exact mem_true.mp h3
  · intro hx
    have h1 := h.lo x hx
    have h2 := h.hi x hx
    refine ⟨h1, ?_⟩
    rw [wd_get (by omega), show ((x.toNat : Nat) : Int) = x by omega, mem_true.mpr hx]
theorem wd_tr {n : Nat} {l : List Bool} (h : l.length = n) : wd n (tr l) = l := by
  refine List.ext_getElem? fun i => ?_
  by_cases hi : i < n
  · rw [wd_get hi]
    have hi' : i < l.length := by omega
    have e : l[i]? = some l[i] := List.getElem?_eq_getElem hi'
    rw [e]
    congr 1
    cases b : l[i] with
    | true => exact mem_true.mpr (tr_mem.mpr ⟨by omega, by rw [show ((i : Int)).toNat = i from rfl, e, b]⟩)
    | false =>
      refine mem_false.mpr fun z => ?_
      have := (tr_mem.mp z).2
      rw [show ((i : Int)).toNat = i from rfl, e, b] at this
      cases this
  · rw [List.getElem?_eq_none (by rw [wd_len]; omega), List.getElem?_eq_none (by omega)]
/-- the rest of the row, thing by thing -/
theorem wd_drop {n i : Nat} {ms : List Int} (h : i < n) : (wd n ms).drop i = mem ms i :: (wd n ms).drop (i + 1) := by
  rw [List.drop_eq_getElem?_toList_append, wd_get h]
  rfl
/-- a row is well closed just where the set has no loose member -/
theorem okW_iff {n : Nat} {ms : List Int} : ∀ (d i : Nat) (c : Int), n = i + d → (st (mem ms) i).aln = [] →
    (okW ((wd n ms).drop i) c (st (mem ms) i).wt.length ↔ (fin n ms).aln = [] ∧ c + (st (mem ms) i).prs.length = (fin n ms).prs.length)
  | 0, i, c, hn, ha => by
    have e : n = i := hn
    subst e
    rw [List.drop_of_length_le (by rw [wd_len]; exact Nat.le_refl _)]
    show c = 0 ↔ _
    constructor
    · intro h
      exact ⟨ha, by subst h; show (0 : Int) + ((fin n ms).prs.length : Int) = _; omega⟩
    · rintro ⟨_, h⟩
      have h : c + ((fin n ms).prs.length : Int) = _ := h
      omega
  | d + 1, i, c, hn, ha => by
    rw [wd_drop (n := n) (i := i) (by omega)]
    have e1 : st (mem ms) (i + 1) = stp (mem ms i) i (st (mem ms) i) := rfl
    cases hm : mem ms i with
    | false =>
      rw [hm, stp_no] at e1
      have ih := okW_iff (n := n) (ms := ms) d (i + 1) c (by omega) (by rw [e1]; exact ha)
      rw [e1] at ih
      dsimp only at ih
      rw [List.length_append, List.length_singleton] at ih
      exact ih
    | true =>
      rw [hm] at e1
      rcases snoc_cases (st (mem ms) i).wt with z | ⟨r, w, z⟩
      · rw [stp_alone z] at e1
        constructor
        · rintro ⟨h, _⟩
          rw [z] at h
          simp at h
        · rintro ⟨h, _⟩
          obtain ⟨d', hd⟩ : ∃ d', n = (i + 1) + d' := ⟨n - (i + 1), by omega⟩
          have pre := aln_mono (mem ms) (i + 1) d'
          rw [← hd, e1] at pre
          have : (fin n ms).aln = (st (mem ms) n).aln := rfl
          rw [this] at h
          rw [h] at pre
          have := List.prefix_nil.mp pre
          simp at this
      · rw [stp_pop z] at e1
        have ih := okW_iff (n := n) (ms := ms) d (i + 1) (c - 1) (by omega) (by rw [e1]; exact ha)
        rw [e1] at ih
        dsimp only at ih
        rw [List.length_append, List.length_singleton] at ih
        have el : (((st (mem ms) i).wt.length : Nat) : Int) - 1 = (r.length : Int) := by
          rw [z, List.length_append, List.length_singleton]
          omega
        show (1 ≤ _ ∧ okW _ (c - 1) (_ - 1)) ↔ _
        rw [el, ih]
        constructor
        · rintro ⟨_, h1, h2⟩
          exact ⟨h1, by omega⟩
        · rintro ⟨h1, h2⟩
          refine ⟨?_, h1, by omega⟩
          rw [z, List.length_append, List.length_singleton]
          omega
theorem ok_bottom {n : Nat} {ms : List Int} (h : IsSet n ms) {c : Int} : okW (wd n ms) c 0 ↔ (fin n ms).aln = [] ∧ c = ms.length := by
  have e := okW_iff (n := n) (ms := ms) n 0 c (by omega) rfl
  have l := set_len h
  rw [List.drop_zero] at e
  show okW (wd n ms) c ((0 : Nat) : Int) ↔ _
  refine e.trans ?_
  constructor
  · rintro ⟨h1, h2⟩
    rw [h1] at l
    have h2 : c + ((0 : Nat) : Int) = _ := h2
    simp only [List.length_nil] at l
    exact ⟨h1, by omega⟩
  · rintro ⟨h1, h2⟩
    rw [h1] at l
    refine ⟨h1, ?_⟩
    show c + ((0 : Nat) : Int) = _
    simp only [List.length_nil] at l
    omega
/-! ### the sizes -/
theorem ch_mono {n s : Nat} (h : 2 * (s + 1) ≤ n) : ch n s ≤ ch n (s + 1) := by
  have e := en_nn n ((s + 1 : Nat) : Int) 0 (by omega) (by omega)
  unfold en at e
  rw [show (((s + 1 : Nat) : Int) - 0 - 1) = (s : Int) by omega, picks_nat, picks_nat] at e
  omega
theorem ch_mono' {n s : Nat} : ∀ d : Nat, 2 * (s + d) ≤ n → ch n s ≤ ch n (s + d)
  | 0, _ => Nat.le_refl _
  | d + 1, h => Nat.le_trans (ch_mono' d (by omega)) (ch_mono (s := s + d) (by omega))
theorem ch_le_mid {n s : Nat} (h : s ≤ n / 2) : ch n s ≤ ch n (n / 2) := by
  obtain ⟨d, e⟩ : ∃ d, n / 2 = s + d := ⟨n / 2 - s, by omega⟩
  rw [e]
  exact ch_mono' d (by omega)
/-- the size of the bottom with a number -/
def szf (n : Nat) (N : Int) : Nat → Nat → Nat
  | 0, s => s
  | d + 1, s => if N < ch n s then s else szf n N d (s + 1)
def sz (n : Nat) (N : Int) : Nat := szf n N (n / 2) 0
theorem szf_spec {n : Nat} {N : Int} : ∀ (d s : Nat), s + d = n / 2 → N < ch n (n / 2) → (∀ t : Nat, t < s → (ch n t : Int) ≤ N) →
    szf n N d s ≤ n / 2 ∧ N < ch n (szf n N d s) ∧ ∀ t : Nat, t < szf n N d s → (ch n t : Int) ≤ N
  | 0, s, h, hN, hs => by
    have e : s = n / 2 := by omega
    show s ≤ _ ∧ N < ch n s ∧ _
    rw [e] at hs ⊢
    exact ⟨Nat.le_refl _, hN, hs⟩
  | d + 1, s, h, hN, hs => by
    unfold szf
    split
    · rename_i q
      exact ⟨by omega, q, hs⟩
    · rename_i q
      refine szf_spec d (s + 1) (by omega) hN fun t ht => ?_
      by_cases z : t = s
      · rw [z]
        omega
      · exact hs t (by omega)
theorem sz_spec {n : Nat} {N : Int} (hN : N < ch n (n / 2)) : sz n N ≤ n / 2 ∧ N < ch n (sz n N) ∧ ∀ t : Nat, t < sz n N → (ch n t : Int) ≤ N :=
  szf_spec (n / 2) 0 (by omega) hN fun t ht => absurd ht (by omega)
theorem sz_eq {n s : Nat} {N : Int} (h1 : N < ch n s) (h2 : ∀ t : Nat, t < s → (ch n t : Int) ≤ N) (hN : N < ch n (n / 2)) : sz n N = s := by
  obtain ⟨a, b, c⟩ := sz_spec hN
  rcases Nat.lt_trichotomy (sz n N) s with h | h | h
  · have := h2 _ h
    omega
  · exact h
  · have := c _ h
    omega
theorem en_top (n s : Nat) : en n s 0 = (ch n s : Int) - picks n ((s : Int) - 1) := by
  unfold en
  rw [picks_nat, show (s : Int) - 0 - 1 = (s : Int) - 1 by omega]
theorem pk_pred_le {n s : Nat} {N : Int} (h0 : 0 ≤ N) (h : ∀ t : Nat, t < s → (ch n t : Int) ≤ N) : picks n ((s : Int) - 1) ≤ N := by
  cases s with
  | zero =>
    rw [pk_neg (by omega)]
    exact h0
  | succ s =>
    rw [show (((s + 1 : Nat) : Int) - 1) = (s : Int) by omega, picks_nat]
    exact h s (by omega)
/-- the bottom of a chain -/
def bottomL (n : Nat) (N : Int) : List Int := tr (bw n (sz n N) 0 (N - picks n ((sz n N : Int) - 1)))
/-- its number -/
def numOf (n : Nat) (ms : List Int) : Int := picks n ((ms.length : Int) - 1) + nw (wd n ms) ms.length 0
theorem bottom_facts {n : Nat} {N : Int} (h0 : 0 ≤ N) (hN : N < ch n (n / 2)) : IsSet n (bottomL n N) ∧ (fin n (bottomL n N)).aln = [] ∧ (bottomL n N).length = sz n N ∧ numOf n (bottomL n N) = N := by
  obtain ⟨a, b, c⟩ := sz_spec hN
  have p := pk_pred_le h0 c
  have hk : N - picks n ((sz n N : Int) - 1) < en n (sz n N) 0 := by
    rw [en_top]
    omega
  obtain ⟨o1, o2⟩ := bw_ok n (sz n N) 0 (N - picks n ((sz n N : Int) - 1)) (by omega) (by omega) (by omega) hk
  have bl := bw_len n (sz n N) 0 (N - picks n ((sz n N : Int) - 1))
  have hs : IsSet n (bottomL n N) := by
    have := tr_set (bw n (sz n N) 0 (N - picks n ((sz n N : Int) - 1)))
    rw [bl] at this
    exact this
  have hw : wd n (bottomL n N) = bw n (sz n N) 0 (N - picks n ((sz n N : Int) - 1)) := wd_tr bl
  have ob := (ok_bottom hs (c := (sz n N : Int))).mp (by rw [hw]; exact o1)
  have el : (bottomL n N).length = sz n N := by have := ob.2; omega
  refine ⟨hs, ob.1, el, ?_⟩
  unfold numOf
  rw [el, hw, o2]
  omega
theorem num_facts {n : Nat} {ms : List Int} (h : IsSet n ms) (ha : (fin n ms).aln = []) : 0 ≤ numOf n ms ∧ numOf n ms < ch n (n / 2) ∧ sz n (numOf n ms) = ms.length ∧ bottomL n (numOf n ms) = ms := by
  have o := (ok_bottom h (c := (ms.length : Int))).mpr ⟨ha, rfl⟩
  obtain ⟨a, b, c⟩ := nw_ok (wd n ms) ms.length 0 (by omega) o
  have fe := okW_end (wd n ms) ms.length 0 (by omega) o
  rw [wd_len] at b c fe
  rw [en_top] at b
  have hs : ms.length ≤ n / 2 := by omega
  have hp : 0 ≤ picks n ((ms.length : Int) - 1) := by
    unfold picks
    split <;> omega
  have hN : numOf n ms < ch n ms.length := by
    unfold numOf
    omega
  have hm := ch_le_mid hs
  have lt : ∀ t : Nat, t < ms.length → (ch n t : Int) ≤ numOf n ms := fun t ht => by
    obtain ⟨d, hd⟩ : ∃ d, ms.length = t + d + 1 := ⟨ms.length - t - 1, by omega⟩
    have := ch_mono' (n := n) (s := t) d (by omega)
    have e : picks n ((ms.length : Int) - 1) = (ch n (t + d) : Int) := by
      rw [hd, show (((t + d + 1 : Nat) : Int) - 1) = ((t + d : Nat) : Int) by omega, picks_nat]
    unfold numOf
    omega
  have es : sz n (numOf n ms) = ms.length := sz_eq hN lt (by omega)
  refine ⟨?_, by omega, es, ?_⟩
  · unfold numOf
    omega
  · unfold bottomL
    rw [es]
    have e : numOf n ms - picks n ((ms.length : Int) - 1) = nw (wd n ms) ms.length 0 := by
      unfold numOf
      omega
    rw [e, c]
    exact tr_wd h
end SC
namespace SC
open PySem PySem.Spec PyProof.Rows L2
/-! ### what stands behind the top -/
def At (K : PySem.W.Frag) (mg : Str → Option Value) (x : Str) (st : Stmt) : Prop := ∃ (f : Addr) (fd : FuncData), Fun K x x st f fd ∧ mg x = some (.ref f)
structure Def (P : Program) (w : World) (K : PySem.W.Frag) (mg : Str → Option Value) (base : Heap) (CX : CXT) (k : Nat) (x : Str) (ps : List Str) (sp : Sp) : Prop where
  ex : ∃ (f : Addr) (fd : FuncData), FnOk P w K mg base CX k f fd ps sp ∧ mg x = some (.ref f) ∧ PySem.W.keepIn K (.ref f) = true ∧ Binds K fd ps []
/-- an exception class of the program's own -/
structure XT (K : PySem.W.Frag) (mg : Str → Option Value) (n : Str) (C : Addr) : Prop where
  g : mg n = some (.ref C)
  x : PySem.W.excIn K C [.type "ValueError", .type "Exception", .type "BaseException", .type "object"] "ValueError.__new__" = true
  k : PySem.W.keepIn K (.ref C) = true
  b : PySem.W.subIn K (.ref C) (.type "BaseException") = some true
  t : PySem.W.typeIn K (.ref C) = some (.type "type")
/-- the built-in names, the module's constant -/
structure Bt (mg : Str → Option Value) (tM : Tok) : Prop where
  len : mg "len" = none
  range : mg "range" = none
  sorted : mg "sorted" = none
  isinstance : mg "isinstance" = none
  int : mg "int" = none
  bool : mg "bool" = none
  list : mg "list" = none
  tuple : mg "tuple" = none
  str : mg "str" = none
  sum : mg "sum" = none
  all : mg "all" = none
  min : mg "min" = none
  max : mg "max" = none
  ValueError : mg "ValueError" = none
  MOST : mg "MOST" = some (.int 40 tM)
theorem sz_le {n : Nat} (h : n ≤ 100000) : n ≤ sizeLine := Nat.le_trans h (by decide)
theorem sz_lt {n : Nat} (h : n < 100000) : n < sizeLine := Nat.lt_of_lt_of_le h (by decide)
theorem inD_u {A : Around} {k : Nat} (r : Room k A) : A.units + 65 < cLine := by have := r.un; omega
/-- new: nothing that was tracked is changed -/
theorem same_new {H : Hp} {p : Addr} {o : HO} (h : H p = none) : Same H (upd H p o) := fun b x e => by
  rw [upd_ne (ne_of_none e h)]
  exact e
/-- what was not tracked ahead may change -/
theorem same_mut {H H' : Hp} {p : Addr} {o : HO} (s : Same H H') (h : H p = none) : Same H (upd H' p o) := fun b x e => by
  rw [upd_ne (ne_of_none e h)]
  exact s b x e
theorem tyes {σ : L2.St} {H : Hp} {Q : Bool → Hp → Prop} (h : Q true H) : tYes σ H Q := h
theorem at_int {l : List Int} {i : Nat} {v : Int} (h : l[i]? = some v) : (l.map V.int)[i]? = some (.int v) := by
  rw [List.getElem?_map, h]
  rfl
theorem at_map {l : List Int} {i : Nat} {y : V} (h : (l.map V.int)[i]? = some y) : ∃ v, l[i]? = some v ∧ y = .int v := by
  rw [List.getElem?_map] at h
  cases e : l[i]? with
  | none => rw [e] at h; cases h
  | some v =>
    rw [e] at h
    exact ⟨v, rfl, (Option.some.inj h).symm⟩
theorem atI_int {l : List Int} {z : Int} {i : Nat} {v : Int} (e : z = (i : Int)) (h : l[i]? = some v) : atI (l.map V.int) z = some (.int v) := by
  rw [e]
  exact atI_nat (at_int h)
theorem take_snoc {α : Type} {l : List α} {i : Nat} {x : α} (h : l[i]? = some x) : l.take (i + 1) = l.take i ++ [x] := by
  rw [List.take_add_one, h]
  rfl
/-! ### dicts used as sets of ints -/
def KD (H : Hp) (d : Addr) (l : List Int) : Prop := ∃ kvs : List (Key × V), H d = some (.dK kvs) ∧ kvs.length ≤ l.length ∧ ∀ x : Int, (valV kvs (Sum.inl x)).isSome = l.contains x
theorem KD.nil {H : Hp} {d : Addr} (h : H d = some (.dK [])) : KD H d [] := ⟨[], h, Nat.le_refl _, fun _ => rfl⟩
theorem KD.get {H : Hp} {d : Addr} {l : List Int} (h : KD H d l) (x : Int) : ∃ o, DGet H d (.int x) o ∧ o.isSome = l.contains x := by
  obtain ⟨kvs, h1, _, h3⟩ := h
  exact ⟨_, DGet.k (k := Sum.inl x) h1, h3 x⟩
theorem KD.put {H : Hp} {d : Addr} {l : List Int} (h : KD H d l) (hl : l.length ≤ 1000) (x : Int) (v : V) : ∃ o, DPut H d (.int x) v (upd H d o) ∧ ∀ H' : Hp, H' d = some o → KD H' d (l ++ [x]) := by
  obtain ⟨kvs, h1, h2, h3⟩ := h
  refine ⟨_, DPut.k (k := Sum.inl x) h1 (sz_lt (by omega)), fun H' e => ⟨_, e, ?_, fun y => ?_⟩⟩
  · have := length_putK kvs (Sum.inl x) v
    rw [List.length_append, List.length_singleton]
    omega
  · rw [valV_put, List.contains_append]
    by_cases e : y = x
    · subst e
      rw [if_pos rfl]
      simp
    · rw [if_neg (fun z => e (Sum.inl.inj z)), h3]
      simp [e]
theorem KD.same {H H' : Hp} {d : Addr} {l : List Int} (h : KD H d l) (s : Same H H') : KD H' d l := by
  obtain ⟨kvs, h1, h2⟩ := h
  exact ⟨kvs, s _ _ h1, h2⟩
theorem KD.at {H H' : Hp} {d : Addr} {l : List Int} (h : KD H d l) (e : H' d = H d) : KD H' d l := by
  obtain ⟨kvs, h1, h2⟩ := h
  exact ⟨kvs, e.trans h1, h2⟩
theorem KD.ne {H : Hp} {d : Addr} {l : List Int} (h : KD H d l) {p : Addr} (n : H p = none) : d ≠ p := by
  obtain ⟨kvs, h1, _⟩ := h
  exact ne_of_none h1 n
/-! ### x in a list of ints -/
theorem flat_ints : ∀ ns : List Int, (ns.map V.int).all flatV = true
  | [] => rfl
  | n :: r => by rw [List.map_cons, List.all_cons, flat_ints r]; rfl
theorem inV_ints (x : Int) : ∀ ns : List Int, inV (.int x) (ns.map V.int) = ns.contains x
  | [] => rfl
  | n :: r => by
    have ih := inV_ints x r
    unfold inV at *
    rw [List.map_cons, List.any_cons, ih, List.contains_cons]
    congr 1
    show (n == x) = (x == n)
    by_cases h : x = n
    · subst h
      rfl
    · rw [beq_eq_false_iff_ne.mpr h, beq_eq_false_iff_ne.mpr (fun z => h z.symm)]
/-! ### lists of pairs -/
/-- the tuples at ts hold the pairs ps -/
def Tups (H : Hp) (ts : List Addr) (ps : List (Int × Int)) : Prop := Paired (fun t q => H t = some (.tup [.int q.1, .int q.2])) ts ps
theorem Tups.same {H H' : Hp} {ts : List Addr} {ps : List (Int × Int)} (h : Tups H ts ps) (s : Same H H') : Tups H' ts ps := Paired.mapP h fun _ _ e => s _ _ e
theorem Tups.snoc {H : Hp} {ts : List Addr} {ps : List (Int × Int)} {t : Addr} {q : Int × Int} (h : Tups H ts ps) (e : H t = some (.tup [.int q.1, .int q.2])) : Tups H (ts ++ [t]) (ps ++ [q]) := Paired.snoc h e
/-- what is no tuple may change -/
theorem Tups.upd {H : Hp} {ts : List Addr} {ps : List (Int × Int)} {p : Addr} {xs : List V} {o : HO} (h : Tups H ts ps) (e : H p = some (.lst xs)) : Tups (upd H p o) ts ps :=
  Paired.mapP h fun _ _ q => by rw [upd_ne (ne_of q e (by intro z; cases z))]; exact q
theorem Tups.len {H : Hp} {ts : List Addr} {ps : List (Int × Int)} (h : Tups H ts ps) : ts.length = ps.length := Paired.length h
theorem Tups.get {H : Hp} {ts : List Addr} {ps : List (Int × Int)} (h : Tups H ts ps) {i : Nat} {q : Int × Int} (e : ps[i]? = some q) : ∃ t, ts[i]? = some t ∧ H t = some (.tup [.int q.1, .int q.2]) := by
  have hl := h.len
  have hi : i < ts.length := by
    have := (List.getElem?_eq_some_iff.mp e).1
    omega
  refine ⟨ts[i], List.getElem?_eq_getElem hi, ?_⟩
  obtain ⟨q', e', hq⟩ := paired_get h (List.getElem?_eq_getElem hi)
  rw [e] at e'
  cases e'
  exact hq
/-- which pair lies at a tuple -/
def pairAt (H : Hp) : V → Int × Int
  | .ref t => match H t with
    | some (.tup [.int i, .int j]) => (i, j)
    | _ => (0, 0)
  | _ => (0, 0)
theorem pairAt_of {H : Hp} {t : Addr} {q : Int × Int} (e : H t = some (.tup [.int q.1, .int q.2])) : pairAt H (.ref t) = q := by
  unfold pairAt
  simp only [e]
theorem Tups.map {H : Hp} : ∀ {ts : List Addr} {ps : List (Int × Int)}, Tups H ts ps → (ts.map V.ref).map (pairAt H) = ps
  | _, _, .nil => rfl
  | _, _, .cons h t => by
    rw [List.map_cons, List.map_cons, pairAt_of h, Tups.map t]
theorem Tups.all {H : Hp} : ∀ {ts : List Addr} {ps : List (Int × Int)}, Tups H ts ps → ∀ x ∈ ts.map V.ref, ∃ t, x = V.ref t ∧ H t = some (.tup [.int (pairAt H x).1, .int (pairAt H x).2])
  | _, _, .nil, _, h => nomatch h
  | _, _, .cons h t, x, hx => by
    rw [List.map_cons] at hx
    rcases List.mem_cons.mp hx with e | e
    · subst e
      refine ⟨_, rfl, ?_⟩
      rw [pairAt_of h]
      exact h
    · exact Tups.all t x e
theorem tups_of {H : Hp} : ∀ (xs : List V), (∀ x ∈ xs, ∃ t, x = V.ref t ∧ H t = some (.tup [.int (pairAt H x).1, .int (pairAt H x).2])) → ∃ ts, xs = ts.map V.ref ∧ Tups H ts (xs.map (pairAt H))
  | [], _ => ⟨[], rfl, .nil⟩
  | x :: r, h => by
    obtain ⟨t, e, q⟩ := h x (List.mem_cons_self ..)
    obtain ⟨ts, e2, q2⟩ := tups_of r fun y hy => h y (List.mem_cons_of_mem _ hy)
    subst e
    exact ⟨t :: ts, by rw [e2]; rfl, .cons q q2⟩
/-- sorted of a list of pairs -/
def rSortedQ (K : PySem.W.Frag) : List V → Hp → VK → Prop := fun vs H Q => ∃ (a : Addr) (ts : List Addr) (ps : List (Int × Int)), vs = [V.ref a] ∧ SqL K H a (ts.map V.ref) ∧ Tups H ts ps ∧
  ∀ (p : Addr) (ts' : List Addr), H p = none → Tups H ts' (psort ps) → Q (.ref p) (upd H p (.lst (ts'.map V.ref)))
theorem cr_sortedQ {X : Cx} : CallR X (.builtin "sorted") (rSortedQ X.K) := by
  intro pins s σ H vs us Q I r h
  obtain ⟨a, ts, ps, rfl, hs, ht, q⟩ := h
  refine cr_sortedPO pins s σ H _ us Q I r ⟨a, ts.map V.ref, pairAt H, rfl, hs, ht.all, fun ys p srt stb np => ?_⟩
  have hp := stb.perm
  obtain ⟨ts', e, t'⟩ := tups_of (H := H) ys fun x hx => ht.all x (hp.mem_iff.mp hx)
  have es : ys.map (pairAt H) = psort ps := by
    refine psort_uniq ?_ ?_
    · refine List.pairwise_map.mpr (srt.imp fun {x y} h => ?_)
      have := SrtO.lexB_no.mp h
      unfold leP
      simp only [decide_eq_true_eq]
      omega
    · have := hp.map (pairAt H)
      rw [ht.map] at this
      exact this
  rw [es] at t'
  subst e
  exact q p ts' np t'
/-- sorted of a list of ints -/
def rSortedJ (K : PySem.W.Frag) : List V → Hp → VK → Prop := fun vs H Q => ∃ (a : Addr) (ns : List Int), vs = [V.ref a] ∧ SqL K H a (ns.map V.int) ∧ ∀ p, H p = none → Q (.ref p) (upd H p (.lst ((isort ns).map V.int)))
theorem cr_sortedJ {X : Cx} : CallR X (.builtin "sorted") (rSortedJ X.K) := by
  intro pins s σ H vs us Q I r h
  obtain ⟨a, ns, rfl, hs, q⟩ := h
  refine cr_sortedI pins s σ H _ us Q I r ⟨a, ns, rfl, hs, fun ns' p hp srt np => ?_⟩
  rw [isort_uniq srt hp]
  exact q p np
/-! ### data: lists of ints, pairs, lists of lists -/
def dI (ns : List Int) : PyData := .list (ns.map PyData.int)
def dT (q : Int × Int) : PyData := .tuple [.int q.1, .int q.2]
def dL (rows : List (List Int)) : PyData := .list (rows.map dI)
theorem ints_lay : ∀ ns : List Int, PyData.canLayAll0 (ns.map PyData.int) = true
  | [] => rfl
  | n :: r => by simp [PyData.canLayAll0, PyData.canLay0, ints_lay r]
theorem ints_depth : ∀ ns : List Int, PyData.depthAll (ns.map PyData.int) = 0
  | [] => rfl
  | n :: r => by simp [PyData.depthAll, PyData.depth, ints_depth r]
theorem dI_lay (ns : List Int) : PyData.canLay0 (dI ns) = true := by
  unfold dI
  simp only [PyData.canLay0]
  exact ints_lay ns
theorem dI_depth (ns : List Int) : PyData.depth (dI ns) ≤ 1 := by
  unfold dI
  simp only [PyData.depth]
  rw [ints_depth]
  omega
theorem dI_shaped (ns : List Int) : SeqAt.shaped (dI ns) = true := by
  unfold SeqAt.shaped
  rw [Bool.and_eq_true]
  exact ⟨dI_lay ns, decide_eq_true (Nat.le_trans (dI_depth ns) (by decide))⟩
theorem dT_shaped (q : Int × Int) : SeqAt.shaped (dT q) = true := by
  unfold SeqAt.shaped dT
  rw [Bool.and_eq_true]
  exact ⟨by simp [PyData.canLay0, PyData.canLayAll0], decide_eq_true (by simp [PyData.depth, PyData.depthAll])⟩
theorem dLs_lay : ∀ rs : List (List Int), PyData.canLayAll0 (rs.map dI) = true
  | [] => rfl
  | n :: r => by simp [PyData.canLayAll0, dI_lay n, dLs_lay r]
theorem dLs_depth : ∀ rs : List (List Int), PyData.depthAll (rs.map dI) ≤ 1
  | [] => by simp [PyData.depthAll]
  | n :: r => by
    have h1 := dI_depth n
    have h2 := dLs_depth r
    simp only [List.map_cons, PyData.depthAll]
    omega
theorem dL_shaped (rs : List (List Int)) : SeqAt.shaped (dL rs) = true := by
  unfold SeqAt.shaped dL
  rw [Bool.and_eq_true]
  refine ⟨by simp only [PyData.canLay0]; exact dLs_lay rs, decide_eq_true ?_⟩
  have h := dLs_depth rs
  simp only [PyData.depth]
  omega
theorem ints_eqv : ∀ a b : List Int, PyData.eqvAll (a.map PyData.int) (b.map PyData.int) = decide (a = b)
  | [], [] => by simp [PyData.eqvAll]
  | [], y :: b => by simp [PyData.eqvAll]
  | x :: a, [] => by simp [PyData.eqvAll]
  | x :: a, y :: b => by
    simp only [List.map_cons, PyData.eqvAll, PyData.eqv, ints_eqv a b]
    by_cases h : x = y
    · subst h
      simp
    · simp [h]
theorem dI_eqv (a b : List Int) : PyData.eqv (dI a) (dI b) = decide (a = b) := by
  unfold dI
  simp only [PyData.eqv]
  exact ints_eqv a b
theorem dT_eqv (p q : Int × Int) : PyData.eqv (dT p) (dT q) = decide (p = q) := by
  obtain ⟨a, b⟩ := p
  obtain ⟨c, d⟩ := q
  unfold dT
  simp only [PyData.eqv, PyData.eqvAll]
  by_cases h1 : a = c
  · by_cases h2 : b = d
    · subst h1 h2
      simp
    · simp [h1, h2]
  · simp [h1]
theorem dLs_eqv : ∀ a b : List (List Int), PyData.eqvAll (a.map dI) (b.map dI) = decide (a = b)
  | [], [] => by simp [PyData.eqvAll]
  | [], y :: b => by simp [PyData.eqvAll]
  | x :: a, [] => by simp [PyData.eqvAll]
  | x :: a, y :: b => by
    simp only [List.map_cons, PyData.eqvAll, dI_eqv, dLs_eqv a b]
    by_cases h : x = y
    · subst h
      simp
    · simp [h]
theorem dL_eqv (a b : List (List Int)) : PyData.eqv (dL a) (dL b) = decide (a = b) := by
  unfold dL
  simp only [PyData.eqv]
  exact dLs_eqv a b
def dP (ps : List (Int × Int)) : PyData := .list (ps.map dT)
theorem dTs_lay : ∀ ps : List (Int × Int), PyData.canLayAll0 (ps.map dT) = true
  | [] => rfl
  | n :: r => by simp [PyData.canLayAll0, PyData.canLay0, dT, dTs_lay r]
theorem dTs_depth : ∀ ps : List (Int × Int), PyData.depthAll (ps.map dT) ≤ 1
  | [] => by simp [PyData.depthAll]
  | n :: r => by
    have h2 := dTs_depth r
    have h1 : PyData.depth (dT n) ≤ 1 := by simp [dT, PyData.depth, PyData.depthAll]
    simp only [List.map_cons, PyData.depthAll]
    omega
theorem dP_shaped (ps : List (Int × Int)) : SeqAt.shaped (dP ps) = true := by
  unfold SeqAt.shaped dP
  rw [Bool.and_eq_true]
  refine ⟨by simp only [PyData.canLay0]; exact dTs_lay ps, decide_eq_true ?_⟩
  have h := dTs_depth ps
  simp only [PyData.depth]
  omega
theorem dTs_eqv : ∀ a b : List (Int × Int), PyData.eqvAll (a.map dT) (b.map dT) = decide (a = b)
  | [], [] => by simp [PyData.eqvAll]
  | [], y :: b => by simp [PyData.eqvAll]
  | x :: a, [] => by simp [PyData.eqvAll]
  | x :: a, y :: b => by
    simp only [List.map_cons, PyData.eqvAll, dT_eqv, dTs_eqv a b]
    by_cases h : x = y
    · subst h
      simp
    · simp [h]
theorem dP_eqv (a b : List (Int × Int)) : PyData.eqv (dP a) (dP b) = decide (a = b) := by
  unfold dP
  simp only [PyData.eqv]
  exact dTs_eqv a b
theorem dp_ints {K : PySem.W.Frag} {H : Hp} : ∀ ns : List Int, DpAll K H (ns.map V.int) (ns.map PyData.int)
  | [] => .nil
  | n :: r => .cons (.int n) (dp_ints r)
theorem dp_I {K : PySem.W.Frag} {H : Hp} {a : Addr} {ns : List Int} (h : SqL K H a (ns.map V.int)) : Dp K H (.ref a) (dI ns) := .lst h (dp_ints ns)
theorem dp_T {K : PySem.W.Frag} {H : Hp} {a : Addr} {q : Int × Int} (h : H a = some (.tup [.int q.1, .int q.2])) : Dp K H (.ref a) (dT q) := .tup (SqT.of h) (.cons (.int _) (.cons (.int _) .nil))
theorem dp_Ts {K : PySem.W.Frag} {H : Hp} : ∀ {ts : List Addr} {ps : List (Int × Int)}, Tups H ts ps → DpAll K H (ts.map V.ref) (ps.map dT)
  | _, _, .nil => .nil
  | _, _, .cons h t => .cons (dp_T h) (dp_Ts t)
theorem dp_P {K : PySem.W.Frag} {H : Hp} {a : Addr} {ts : List Addr} {ps : List (Int × Int)} (h : SqL K H a (ts.map V.ref)) (r : Tups H ts ps) : Dp K H (.ref a) (dP ps) := .lst h (dp_Ts r)
/-- the lists at as hold the rows -/
def Rows (H : Hp) (as : List Addr) (rows : List (List Int)) : Prop := Paired (fun a r => H a = some (.lst (r.map V.int))) as rows
theorem Rows.same {H H' : Hp} {as : List Addr} {rs : List (List Int)} (h : Rows H as rs) (s : Same H H') : Rows H' as rs := Paired.mapP h fun _ _ e => s _ _ e
theorem Rows.len {H : Hp} {as : List Addr} {rs : List (List Int)} (h : Rows H as rs) : as.length = rs.length := Paired.length h
theorem Rows.snoc {H : Hp} {as : List Addr} {rs : List (List Int)} {a : Addr} {r : List Int} (h : Rows H as rs) (e : H a = some (.lst (r.map V.int))) : Rows H (as ++ [a]) (rs ++ [r]) := Paired.snoc h e
theorem Rows.get {H : Hp} {as : List Addr} {rs : List (List Int)} (h : Rows H as rs) {i : Nat} {r : List Int} (e : rs[i]? = some r) : ∃ a, as[i]? = some a ∧ H a = some (.lst (r.map V.int)) := by
  have hl := h.len
  have hi : i < as.length := by
    have := (List.getElem?_eq_some_iff.mp e).1
    omega
  refine ⟨as[i], List.getElem?_eq_getElem hi, ?_⟩
  obtain ⟨q', e', hq⟩ := paired_get h (List.getElem?_eq_getElem hi)
  rw [e] at e'
  cases e'
  exact hq
theorem Rows.at {H : Hp} {as : List Addr} {rs : List (List Int)} (h : Rows H as rs) {i : Nat} {a : Addr} (e : as[i]? = some a) : ∃ r, rs[i]? = some r ∧ H a = some (.lst (r.map V.int)) := paired_get h e
theorem Rows.mem {H : Hp} {as : List Addr} {rs : List (List Int)} (h : Rows H as rs) {a : Addr} (e : a ∈ as) : ∃ r, r ∈ rs ∧ H a = some (.lst (r.map V.int)) := by
  obtain ⟨i, hi, rfl⟩ := List.getElem_of_mem e
  obtain ⟨r, h1, h2⟩ := h.at (List.getElem?_eq_getElem hi)
  exact ⟨r, List.mem_of_getElem? h1, h2⟩
/-- a list that is none of the rows may change -/
theorem Rows.upd {H : Hp} {as : List Addr} {rs : List (List Int)} {p : Addr} {o : HO} (h : Rows H as rs) (e : p ∉ as) : Rows (upd H p o) as rs := by
  unfold Rows at *
  induction h with
  | nil => exact .nil
  | cons q t ih =>
    refine .cons ?_ (ih fun z => e (List.mem_cons_of_mem _ z))
    rw [upd_ne (fun z => e (by rw [← z]; exact List.mem_cons_self ..))]
    exact q
theorem Rows.take {H : Hp} {as : List Addr} {rs : List (List Int)} (h : Rows H as rs) (k : Nat) : Rows H (as.take k) (rs.take k) := by
  unfold Rows at *
  induction h generalizing k with
  | nil => rw [List.take_nil, List.take_nil]; exact .nil
  | cons q t ih =>
    cases k with
    | zero => exact .nil
    | succ k => exact .cons q (ih k)
theorem dp_Ls {K : PySem.W.Frag} {H : Hp} : ∀ {as : List Addr} {rs : List (List Int)}, Rows H as rs → DpAll K H (as.map V.ref) (rs.map dI)
  | _, _, .nil => .nil
  | _, _, .cons h t => .cons (dp_I (SqL.of h)) (dp_Ls t)
theorem dp_L {K : PySem.W.Frag} {H : Hp} {a : Addr} {as : List Addr} {rs : List (List Int)} (h : SqL K H a (as.map V.ref)) (r : Rows H as rs) : Dp K H (.ref a) (dL rs) := .lst h (dp_Ls r)
theorem dL_any (rs : List (List Int)) (r : List Int) : ((rs.map dI).any fun z => PyData.eqv z (dI r)) = decide (r ∈ rs) := by
  induction rs with
  | nil => rfl
  | cons x rs ih =>
    rw [List.map_cons, List.any_cons, ih, dI_eqv]
    by_cases h : x = r
    · subst h
      simp
    · by_cases h2 : r ∈ rs
      · simp [h2]
      · simp [h, h2, Ne.symm h]
theorem cut_take (xs : List V) (k : Nat) : cutV xs none (some (k : Int)) = xs.take k := by
  unfold cutV
  rw [HT.sIx_none, HT.sIx_nat, List.drop_zero, Nat.sub_zero]
  by_cases h : k ≤ xs.length
  · rw [Nat.min_eq_left h]
  · rw [Nat.min_eq_right (by omega), List.take_length, List.take_of_length_le (by omega)]
theorem Tups.take {H : Hp} {ts : List Addr} {ps : List (Int × Int)} (h : Tups H ts ps) (k : Nat) : Tups H (ts.take k) (ps.take k) := by
  unfold Tups at *
  induction h generalizing k with
  | nil => rw [List.take_nil, List.take_nil]; exact .nil
  | cons q t ih =>
    cases k with
    | zero => exact .nil
    | succ k => exact .cons q (ih k)
/-! ### what the program's own looks ask -/
def Guard (CM CS : Addr) (m : Int) (ms : List Int) (E : XK) (H : Hp) (good : Prop) : Prop :=
  ((m < 0 ∨ 40 < m) → E (.ref CM) none H) ∧ (¬ (m < 0 ∨ 40 < m) → setOk m (-1) ms = false → E (.ref CS) none H) ∧ (∀ n : Nat, m = (n : Int) → n ≤ 40 → IsSet n ms → good)
theorem Guard.of {CM CS : Addr} {n : Nat} {ms : List Int} {E : XK} {H : Hp} {good : Prop} (hn : n ≤ 40) (h : IsSet n ms) (g : good) : Guard CM CS n ms E H good :=
  ⟨fun z => absurd z (by omega), fun _ z => by rw [setOk_set.mpr h] at z; (cases z), fun _ _ _ _ => g⟩
theorem Guard.imp {CM CS : Addr} {m : Int} {ms : List Int} {E : XK} {H : Hp} {good good' : Prop} (h : Guard CM CS m ms E H good) (g : ∀ n : Nat, m = (n : Int) → n ≤ 40 → IsSet n ms → good → good') : Guard CM CS m ms E H good' :=
  ⟨h.1, h.2.1, fun n e h1 h2 => g n e h1 h2 (h.2.2 n e h1 h2)⟩
/-! ### rules whose reading names the written part (for a comprehension's block) -/
/-! ### a caught exception handed on to a def -/
/-- an exception class, as a name and in an except clause -/
structure XC (K : PySem.W.Frag) (mg : Str → Option Value) (n : Str) (C : Addr) : Prop where
  g : mg n = some (.ref C)
  d : PySem.W.hasDictIn K C = true
  t : PySem.W.typeIn K (.ref C) = some (.type "type")
  b : PySem.W.subIn K (.ref C) (.type "BaseException") = some true
/-- a class that is raised, beside the four that are asked for -/
structure XQ (K : PySem.W.Frag) (D CE C1 C2 C3 C4 : Addr) (b1 b2 b3 b4 : Bool) : Prop where
  e : ExcC K D
  v : PySem.W.subIn K (.ref D) (.type "ValueError") = some true
  self : PySem.W.subIn K (.ref D) (.ref D) = some true
  up : PySem.W.subIn K (.ref D) (.ref CE) = some true
  s1 : PySem.W.subIn K (.ref D) (.ref C1) = some b1
  s2 : PySem.W.subIn K (.ref D) (.ref C2) = some b2
  s3 : PySem.W.subIn K (.ref D) (.ref C3) = some b3
  s4 : PySem.W.subIn K (.ref D) (.ref C4) = some b4
theorem kit_own {K : PySem.W.Frag} {D C : Addr} {b : Bool} (self : PySem.W.subIn K (.ref D) (.ref D) = some true) (hd : PySem.W.hasDictIn K C = true) (ht : PySem.W.typeIn K (.ref C) = some (.type "type")) (hs : PySem.W.subIn K (.ref D) (.ref C) = some b) :
    PySem.W.kitOne K (.ref D) (.ref C) = some b := by
  unfold PySem.W.kitOne
  by_cases h : D = C
  · subst h
    rw [self] at hs
    rw [if_pos (beq_self_eq_true _)]
    exact hs
  · rw [if_neg (fun z => h (Value.ref.inj (beq_iff_eq.mp z)))]
    obtain ⟨cd, hc, _⟩ := PySem.W.any_some hd
    show (if ((PySem.W.clsIn K C).isSome && PySem.W.typeIn K (.ref C) == some (.type "type")) = true then _ else none) = some b
    rw [if_pos (by rw [hc, ht]; rfl)]
    exact hs
theorem kit_val {K : PySem.W.Frag} {D : Addr} (h : PySem.W.subIn K (.ref D) (.type "ValueError") = some true) : PySem.W.kitOne K (.ref D) (.type "ValueError") = some true := by
  unfold PySem.W.kitOne
  rw [if_neg (by intro z; cases beq_iff_eq.mp z)]
  show (if PySem.W.kitMeta "ValueError" = true then _ else none) = some true
  rw [if_pos (by decide +kernel)]
  exact h
/-- what a def promises that is handed the exception at a, of class c -/
abbrev SpE := Addr → Value → Option Addr → Sp
structure FnP (P : Program) (w : World) (K : PySem.W.Frag) (mg : Str → Option Value) (base : Heap) (k : Nat) (f : Addr) (fd : FuncData) (ps : List Str) (sp : SpE) : Prop where
  len : ∀ a c d vs H Q E, sp a c d vs H Q E → vs.length = ps.length
  go : ∀ (A : Around) (up : List Env) (s : Shared) (H : Hp) (as : Args) (us : List Value) (vs : List V) (Q : VK) (p : Addr × Obj) (c : Value) (d : Option Addr), L2H.RoomH k A → Zc c d p.2 → (∃ g, p.2.data = .fields g) → L2H.PinOk up H s p →
    Env0 P w K mg base A up s H → BindsTo s fd as (ps.zip us) → Vals vs us → sp p.1 c d vs H Q E0 → codeAny (model P w) A (.call (.ref f) as) (CR CX0 up P w H s Q E0) s
structure DefP (P : Program) (w : World) (K : PySem.W.Frag) (mg : Str → Option Value) (base : Heap) (k : Nat) (x : Str) (ps : List Str) (sp : SpE) : Prop where
  ex : ∃ (f : Addr) (fd : FuncData), FnP P w K mg base k f fd ps sp ∧ mg x = some (.ref f) ∧ PySem.W.keepIn K (.ref f) = true ∧ Binds K fd ps []
theorem fnP {P : Program} {w : World} {K : PySem.W.Frag} {mg : Str → Option Value} {base : Heap} {x qual : Str} {st : Stmt} {f : Addr} {fd : FuncData} {N ps : List Str} {k : Nat} {sp : SpE} (F : Fun K x qual st f fd) (S : FnScope N ps (defScope st))
    (len : ∀ a c d vs H Q E, sp a c d vs H Q E → vs.length = ps.length)
    (walk : ∀ (cdv : Value) (A : Around) (up : List Env) (s : Shared) (H : Hp) (vs : List V) (Q : VK) (p : Addr × Obj) (c : Value) (d : Option Addr), L2H.RoomH k (A.deeper (envOfC qual (defScope st) s.heap.objs.size f cdv)) → Zc c d p.2 → (∃ g, p.2.data = .fields g) → sp p.1 c d vs H Q E0 →
      ∃ t, PSs (L2H.cxH CX0 P w K mg base N qual (defScope st) f cdv A up s H E0 p) (defBody st) t ∧ t { nx := fun _ H' => Q .non H', rt := Q } (L2.start N vs) H) : FnP P w K mg base (k + 1) f fd ps sp := by
  obtain ⟨c0, d0, kv, dc, pm, an, cdv, ct, sl0, rfl, lk, cd⟩ := F.ex
  refine ⟨len, fun A up s H as us vs Q p c d room zc fl pin e0 bnd rv asked => ?_⟩
  have same := len _ _ _ _ _ _ _ asked
  have here : K.In s.heap := e0.mod.kin.keeps fun b o e => (e0.bs b o e).1
  have open0 : s.heap.NoLimit := e0.mod.nolimit.keeps fun b o e => (e0.bs b o e).1
  have slot : ∀ y ∈ ps.zip us, (defScope st).names.lookup y.1 = some .local ∨
      ((defScope st).names.lookup y.1 = some .cell ∧ ((cellsFrom (s.heap.objs.size + 1) (defScope st).names []).lookup y.1).isSome = true) := by
    rintro ⟨n, u⟩ hy
    rcases S.par n (List.of_mem_zip hy).1 with z | z
    · exact .inl z
    · exact .inr ⟨z, PySem.W.cellsFrom_some _ _ _ (.inl z)⟩
  refine codeAny_call_function room.depth (here _ _ lk) rfl S.co S.gen rfl (PySem.W.codeRec_of here cd) (bnd _ _ _ _ ?_)
  refine wpAny_newFunctionEnv_cells S.kind slot fun env ee s1 xs => ?_
  subst ee
  refine ⟨open0.keeps xs.toInCall.keep, codeAny_func ?_⟩
  obtain ⟨t, ht, hq⟩ := walk cdv A up s H vs Q p c d (room.deeper _) zc fl asked
  have I := L2H.inv_startH (CX := CX0) (E := E0) S pin e0 same rv xs
  refine wpAny_mono (ht.run [] s1 (L2.start N vs) H _ I hq) (fun fw s' ends => ?_) fun _ _ z => z
  cases fw with
  | ret u =>
    obtain ⟨v, σ', H', J, r, q⟩ := ends
    exact ⟨v, H', J.os, J.bare, J.base, J.hok, r, q⟩
  | next =>
    obtain ⟨σ', H', J, q⟩ := ends
    exact ⟨V.non, H', J.os, J.bare, J.base, J.hok, rfl, q⟩
  | brk =>
    obtain ⟨_, _, _, z⟩ := ends
    exact z.elim
  | cont =>
    obtain ⟨_, _, _, z⟩ := ends
    exact z.elim
/-- a call of such a def within an except suite -/
def tCallP (sp : SpE) (a : Addr) (c : Value) (d : Option Addr) (t : TA) : TE := fun σ H Q => t σ H fun vs H1 => sp a c d vs H1 Q E0
theorem pe_callP {X : Cx} {k : Nat} {f : Addr} {fd : FuncData} {ps : List Str} {sp : SpE} {x : Str} {q pos : Pos} {e : Expr} {es : List Expr} {t : TA} {a : Addr} {oe : Obj} {c : Value} {d : Option Addr}
    (F : FnP X.prog X.w X.K X.mg X.base k f fd ps sp) (room : L2H.RoomH k X.A) (hp : (a, oe) ∈ X.pn) (zc : Zc c d oe) (fl : ∃ g, oe.data = .fields g) (hg : Gl X x) (hm : X.mg x = some (.ref f)) (hk : PySem.W.keepIn X.K (.ref f) = true) (hb : Binds X.K fd ps []) (ha : PA X (e :: es) t)
    (nodb : (x == ("__debug__" : Str)) = false := by decide) (first : starEach (e :: es) X.env = (false, eval e X.env) :: starEach es X.env := by rfl) (plain : (backTo pos (starEach es X.env)).any (·.1) = false := by rfl) :
    PE X (.Call (.Name x q) (e :: es) [] pos) (tCallP sp a c d t) := by
  constructor
  intro pins s σ H Q I asked
  refine wpAny_Call_Name_kw (ld_glob I hg hm ?_ nodb)
  refine PySem.W.callWith_K (h₀ := X.base) I.ok.mod.kin hk (thn (ha.run pos pins s σ H _ I asked) fun us s1 ends => ?_) first plain
  obtain ⟨vs, H1, I1, rv, h⟩ := ends
  refine ⟨I1.kIn, ?_⟩
  have lu : us.length = ps.length := rv.length.symm.trans (F.len _ _ _ _ _ _ _ h)
  have bnd := hb s1 us I1.kIn (by rw [List.append_nil]; exact lu)
  rw [List.append_nil] at bnd
  obtain ⟨p1, p2, p3, p4, p5⟩ := I1.pin (a, oe) (List.mem_append_left _ hp)
  have pin : L2H.PinOk X.stack H1 s1 (a, oe) := by
    refine ⟨p1, p2, fun m => ?_, p5⟩
    rcases List.mem_cons.mp (I1.stkSub a m) with z | z
    · exact p3 z
    · exact p4 z
  refine wpAny_call (codeAny_mono (F.go X.A X.stack s1 H1 ⟨us, []⟩ us vs Q (a, oe) c d room zc fl pin I1.env0 bnd rv h) fun r s' got => ?_)
  cases r with
  | error z => exact False.elim got
  | ok fw =>
    cases fw with
    | ret u => exact I1.after got
    | next => exact False.elim got
    | brk => exact False.elim got
    | cont => exact False.elim got
theorem roomP {j k : Nat} {A : Around} {v : Option Value} (r : Room k A) (h : j ≤ k) : L2H.RoomH j (A.mark v) :=
  ⟨by have := r.dp; show A.depth + 3 * j + 5 < _; omega, by have := r.un; show A.units + 16 * j + 200 < _; omega⟩
theorem uH {k : Nat} {A : Around} (r : L2H.RoomH k A) : A.units + 65 < cLine := by have := r.un; omega
/-- isinstance(e, c) of the exception that was handed on -/
theorem call_isP {X : Cx} {p : Addr × Obj} {D : Addr} (C : ExcC X.K D) (hp : p ∈ X.pn) (zc : Zc (.ref D) none p.2) (fl : ∃ g, p.2.data = .fields g) : CallR X (.builtin "isinstance") (rIsE X.K D p.1) := by
  intro pins s σ H xs us Q I r asked
  obtain ⟨c, cv, b, rfl, known, kit, q⟩ := asked
  obtain ⟨u1, u2, rfl, r1, r2⟩ := vals2 r
  cases (show u1 = Value.ref p.1 from r1)
  have e2 := known u2 r2
  subst e2
  have got := (I.pin p (List.mem_append_left _ hp)).1
  obtain ⟨g, hg⟩ := fl
  obtain ⟨a, cl, di, da, sl⟩ := p
  obtain ⟨z1, z2⟩ := zc
  dsimp only at z1 z2 hg got
  subst z1 z2 hg
  have J : PySem.W.InstAt s.heap a ⟨.ref D, none, .fields g, sl⟩ D none := ⟨got, rfl, rfl, trivial⟩
  exact PySem.W.kia_one (PySem.W.handS_kitx_exc C.hg C.hk C.hs C.hd C.ha C.hn C.ht C.hm) I.kIn J kit (fun z => nomatch z) fun tk => ⟨.bl b, H, I.kept (t' := tk) fun _ _ z => z, rfl, q⟩
theorem own_val {C : Addr} {u : Value} (h : RelV (.ref C) u) : u = .ref C := h
theorem ty_val {n : String} {u : Value} (h : RelV (.ty n) u) : u = .type n := h
/-- l.count(x), items that are data of any depth -/
def rCountD (K : PySem.W.Frag) : V → List V → Hp → VK → Prop := fun x xs H Q => ∃ (a : Addr) (y : V) (d : PyData) (ds : List PyData), x = V.ref a ∧ xs = [y] ∧ Dp K H (V.ref a) (.list ds) ∧ Dp K H y d ∧ SeqAt.shaped (.list ds) = true ∧ SeqAt.shaped d = true ∧ Q (.int (ds.countP fun z => PyData.eqv z d : Nat)) H
theorem mt_countD {X : Cx} (hu : X.A.units + 65 < cLine) : MtR X "list.count" (rCountD X.K) := by
  intro pins s σ H x xs v us Q I rx rxs h
  obtain ⟨a, y, d, ds, rfl, rfl, hl, hy, sl, sd, q⟩ := h
  cases rx
  cases rxs with
  | cons ry rt =>
    rename_i uy ut
    cases rt
    obtain ⟨bs, r1⟩ := Dp.reads I d y uy hy ry
    have lay : PyData.canLayAll0 ds = true := SeqAt.canLay_of_shaped sl
    have room : X.A.units + 1 + min (PyData.depthAll ds) d.depth < cLine := room_in_shaped sd hu
    cases hl with
    | lst hs ha =>
      obtain ⟨its, rv, ⟨⟨cls, dd, data, sls⟩, n, ho, hc, hdn, hdt⟩, hlen⟩ := I.list hs
      dsimp only at hc hdt
      subst hc hdt
      obtain ⟨as, h4⟩ := Dp.readsAll I ds _ its ha rv
      have hmap : its.map (SeqAt.readOf s.heap) = ds := SeqAt.readsAll_map ds its as lay h4
      have all : ReadsAll s.heap its.toArray.toList ds as := h4
      refine call_meets PySem.F.slot_list_count ⟨_, ho, rfl⟩ PySem.F.entry_list_count (PySem.F.args_list_count_2 _ _) (SeqAt.list_countAt a its.toArray n dd sls uy fun u => PyData.eqv (SeqAt.readOf s.heap u) d) ⟨ho, SeqAt.items_eqAt all r1 lay (SeqAt.canLay_of_shaped sd) room, ?_⟩
      refine ⟨.int (ds.countP fun z => PyData.eqv z d : Nat), H, I.tok _, ⟨s.toks, ?_⟩, q⟩
      rw [← hmap, List.countP_map]
      rfl
/-- which of the four it is, in a word -/
def OneHot (b1 b2 b3 b4 : Bool) (z : Str) : Prop := (b1 = true ∧ b2 = false ∧ b3 = false ∧ b4 = false ∧ z = Str.ofString "many") ∨ (b1 = false ∧ b2 = true ∧ b3 = false ∧ b4 = false ∧ z = Str.ofString "set") ∨
  (b1 = false ∧ b2 = false ∧ b3 = true ∧ b4 = false ∧ z = Str.ofString "number") ∨ (b1 = false ∧ b2 = false ∧ b3 = false ∧ b4 = true ∧ z = Str.ofString "note")
def spWord (K : PySem.W.Frag) (CE C1 C2 C3 C4 : Addr) : SpE := fun a c d vs H Q _ => vs = [.ref a] ∧ ∃ (D : Addr) (b1 b2 b3 b4 : Bool) (z : Str), c = .ref D ∧ d = none ∧ XQ K D CE C1 C2 C3 C4 b1 b2 b3 b4 ∧ OneHot b1 b2 b3 b4 z ∧ ∀ H', Same H H' → Q (.str z) H'
/-! ### the text -/
def topS (i : Nat) : Stmt := PySem.Challenge.pw_setchains_k17_refused_numbers.main.body.getD i (.Pass ⟨0, 0, 0, 0⟩)
abbrev s_asked_many : Stmt := topS 8
theorem sc_asked_many : FnScope ["many", "most"] ["many", "most"] (defScope s_asked_many) := ⟨rfl, rfl, rfl, by decide +kernel, rfl, by decide +kernel, by decide +kernel⟩
abbrev s_parted : Stmt := topS 9
theorem sc_parted : FnScope ["many", "members", "inside", "thing", "pairs", "alone", "waiting"] ["many", "members"] (defScope s_parted) := ⟨rfl, rfl, rfl, by decide +kernel, rfl, by decide +kernel, by decide +kernel⟩
abbrev s_picks : Stmt := topS 11
theorem sc_picks : FnScope ["total", "some", "ways", "k"] ["total", "some"] (defScope s_picks) := ⟨rfl, rfl, rfl, by decide +kernel, rfl, by decide +kernel, by decide +kernel⟩
abbrev s_endings : Stmt := topS 12
theorem sc_endings : FnScope ["rest", "closing", "waiting"] ["rest", "closing", "waiting"] (defScope s_endings) := ⟨rfl, rfl, rfl, by decide +kernel, rfl, by decide +kernel, by decide +kernel⟩
abbrev s_how_many : Stmt := topS 13
theorem sc_how_many : FnScope ["many"] ["many"] (defScope s_how_many) := ⟨rfl, rfl, rfl, by decide +kernel, rfl, by decide +kernel, by decide +kernel⟩
abbrev s_bottom_at : Stmt := topS 14
theorem sc_bottom_at : FnScope ["many", "size", "number", "members", "waiting", "thing", "ahead"] ["many", "size", "number"] (defScope s_bottom_at) := ⟨rfl, rfl, rfl, by decide +kernel, rfl, by decide +kernel, by decide +kernel⟩
abbrev s_bottom_of : Stmt := topS 15
theorem sc_bottom_of : FnScope ["many", "number", "size"] ["many", "number"] (defScope s_bottom_of) := ⟨rfl, rfl, rfl, by decide +kernel, rfl, by decide +kernel, by decide +kernel⟩
abbrev s_set_of : Stmt := topS 16
theorem sc_set_of : FnScope ["many", "number", "place", "bottom", "waiting"] ["many", "number", "place"] (defScope s_set_of) := ⟨rfl, rfl, rfl, by decide +kernel, rfl, by decide +kernel, by decide +kernel⟩
abbrev s_middle : Stmt := topS 18
theorem sc_middle : FnScope ["many", "found", "number", "bottom", "waiting"] ["many"] (defScope s_middle) := ⟨rfl, rfl, rfl, by decide +kernel, rfl, by decide +kernel, by decide +kernel⟩
abbrev s__law_cell_at : Stmt := topS 20
theorem sc__law_cell_at : FnScope ["script", "k"] ["script", "k"] (defScope s__law_cell_at) := ⟨rfl, rfl, rfl, by decide +kernel, rfl, by decide +kernel, by decide +kernel⟩
abbrev s__law_word_of : Stmt := topS 21
theorem sc__law_word_of : FnScope ["e", "kinds"] ["e"] (defScope s__law_word_of) := ⟨rfl, rfl, rfl, by decide +kernel, rfl, by decide +kernel, by decide +kernel⟩
abbrev s__law_picks : Stmt := topS 22
theorem sc__law_picks : FnScope ["total", "some", "row", "k", "j"] ["total", "some"] (defScope s__law_picks) := ⟨rfl, rfl, rfl, by decide +kernel, rfl, by decide +kernel, by decide +kernel⟩
abbrev s__law_tried : Stmt := topS 23
theorem sc__law_tried : FnScope ["which", "size", "number", "place", "e"] ["which", "size", "number", "place"] (defScope s__law_tried) := ⟨rfl, rfl, rfl, by decide +kernel, rfl, by decide +kernel, by decide +kernel⟩
abbrev s_law : Stmt := topS 24
theorem sc_law : FnScope ["script", "size", "total", "far", "way", "number", "last", "step", "place", "due", "which"] ["script"] (defScope s_law) := ⟨rfl, rfl, rfl, by decide +kernel, rfl, by decide +kernel, by decide +kernel⟩
section
variable {X : Cx} (K : PySem.W.Frag)
theorem ix_listK (h : X.K = K := by rfl) : IxR X (rIxL K) := h ▸ ix_list
theorem ix_tupK (h : X.K = K := by rfl) : IxR X (rIxT K) := h ▸ ix_tup
theorem sl_listK (h : X.K = K := by rfl) : SlR X (rSlL K) := h ▸ sl_list
theorem pg_tupK {es : List Expr} {k : Nat} {t : TGs} {n : Nat} {pos : Pos} (hc : X.calm = true) (h : PGs X es t)
    (hn : (assignEach es X.env).length = n := by rfl) (hst : (assignEach es X.env).findIdx? (·.1) = none := by rfl) (hK : X.K = K := by rfl) : PG X (.Tuple es k pos) (gTup K n t) := hK ▸ pg_tup hc h hn hst
theorem op_in_seqK (h : X.K = K := by rfl) : OpR X (compareOp .In) (rIn K false) := h ▸ op_in_seq
theorem op_notIn_seqK (h : X.K = K := by rfl) : OpR X (compareOp .NotIn) (rIn K true) := h ▸ op_notIn_seq
theorem op_eqDK (hu : X.A.units + 64 < cLine) (h : X.K = K := by rfl) : OpR X (compareOp .Eq) (rEqD K) := h ▸ op_eqD hu
theorem op_neDK (hu : X.A.units + 64 < cLine) (h : X.K = K := by rfl) : OpR X (compareOp .NotEq) (rNeD K) := h ▸ op_neD hu
theorem op_inDK (hu : X.A.units + 65 < cLine) (h : X.K = K := by rfl) : OpR X (compareOp .In) (rInD K) := h ▸ op_inD hu
theorem op_notInDK (hu : X.A.units + 65 < cLine) (h : X.K = K := by rfl) : OpR X (compareOp .NotIn) (rNotInD K) := h ▸ op_notInD hu
theorem call_len_seqK (h : X.K = K := by rfl) : CallR X (.builtin "len") (fun xs H Q => ∃ p ys, xs = [.ref p] ∧ (SqL K H p ys ∨ SqT K H p ys) ∧ Q (.int ys.length) H) := h ▸ call_len_seq
theorem call_list_ofK (h : X.K = K := by rfl) : CallR X (.type "list") (fun xs H Q => ∃ p ys, xs = [.ref p] ∧ (SqL K H p ys ∨ SqT K H p ys) ∧ ∀ l, H l = none → Q (.ref l) (upd H l (.lst ys))) := h ▸ call_list_of
end
section
variable {P : Program} {w : World} {K : PySem.W.Frag} {mg : Str → Option Value} {base : Heap} {tM : Tok}
/-! #### asked_many -/
def spMany (C : Addr) : Sp := fun vs H Q E => ∃ m M : Int, vs = [.int m, .int M] ∧ ((m < 0 ∨ M < m) → E (.ref C) none H) ∧ (¬ (m < 0 ∨ M < m) → Q .non H)
theorem ok_asked_many {C_NoMany : Addr} (A : At K mg "asked_many" s_asked_many) (B : Bt mg tM) (X_NoMany : XT K mg "NoMany" C_NoMany) :
    Def P w K mg base (L2.CX P w) 1 "asked_many" ["many", "most"] (spMany C_NoMany) := by
  obtain ⟨f, fd, F, gm⟩ := A
  refine ⟨⟨f, fd, F.okX sc_asked_many (fun vs H Q E h => ?_) (fun cdv A outer s H vs Q E hr h => ?_), gm, F.kp, F.binds fun _ _ _ _ _ _ us hl => match us, hl with | [_, _], _ => rfl⟩⟩
  · obtain ⟨m, M, rfl, _⟩ := h
    rfl
  · obtain ⟨m, M, rfl, kE, kQ⟩ := h
    have tk := takes_of (X := cxOf (L2.CX P w) P w K mg base ["many", "most"] "asked_many" (defScope s_asked_many) f cdv A outer s H E) (E := E) rfl rfl rfl rfl
    refine ⟨_, (pss_one (ps_if (PW.pt (pw_or (pt_cmpR op_lt (pv 0) pe_int (nomark _)) (pw_or1 (pt_cmpR op_gt (pv 0) (pv 1) (nomark _))))) (pss_one (ps_raise rfl tk (pmk_own PySem.F.excBase_ValueError X_NoMany.x X_NoMany.g X_NoMany.k (raises_own X_NoMany.b X_NoMany.t) (by rfl)))) pss_nil)), ?_⟩
    refine ⟨_, rfl, m, 0, rfl, rfl, _, rfl, ite2 (fun h1 => ?_) (fun h1 => ?_)⟩
    · exact iteT (kE (.inl (of_decide_eq_true h1)))
    · have h1' : ¬ m < 0 := fun z => h1 (decide_eq_true z)
      refine ⟨_, rfl, _, rfl, m, M, rfl, rfl, _, rfl, ite2 (fun h2 => ?_) (fun h2 => ?_)⟩
      · exact kE (.inr (of_decide_eq_true h2))
      · exact kQ fun z => z.elim h1' fun q => h2 (decide_eq_true q)
/-! #### parted -/
/-- what parted tells: a tuple at p of the pairs at s, the loose members at al, the loose others at wa -/
structure Parted (H H' : Hp) (n : Nat) (ms : List Int) (p s al wa : Addr) (ts : List Addr) : Prop where
  same : Same H H'
  np : H p = none
  ns : H s = none
  nal : H al = none
  nwa : H wa = none
  d1 : al ≠ wa
  d2 : s ≠ al
  d3 : s ≠ wa
  tup : H' p = some (.tup [.ref s, .ref al, .ref wa])
  srt : H' s = some (.lst (ts.map V.ref))
  prs : Tups H' ts (psort (fin n ms).prs)
  aln : H' al = some (.lst ((fin n ms).aln.map V.int))
  wt : H' wa = some (.lst ((fin n ms).wt.map V.int))
def spParted (K : PySem.W.Frag) : Sp := fun vs H Q _ => ∃ (n : Nat) (a : Addr) (ms : List Int), vs = [.int (n : Int), .ref a] ∧ n ≤ 60 ∧ ms.length ≤ 100 ∧ SqL K H a (ms.map V.int) ∧
  ∀ H' p s al wa ts, Parted H H' n ms p s al wa ts → Q (.ref p) H'
theorem ok_parted (A : At K mg "parted" s_parted) (B : Bt mg tM) :
    Def P w K mg base CX0 1 "parted" ["many", "members"] (spParted K) := by
  obtain ⟨f, fd, F, gm⟩ := A
  refine ⟨⟨f, fd, F.ok sc_parted (fun vs H Q E h => ?_) (fun cdv A outer s H vs Q E hr h => ?_), gm, F.kp, F.binds fun _ _ _ _ _ _ us hl => match us, hl with | [_, _], _ => rfl⟩⟩
  · obtain ⟨n, a, ms, rfl, _⟩ := h
    rfl
  · obtain ⟨n, a, ms, rfl, hn, hm, hS, q⟩ := h
    refine ⟨_, (pss_cons (ps_set (i := 2) sc_parted.nd rfl (.inl rfl) pe_dnewK)
    (pss_cons (ps_for PassesOwn.never rfl (pi_list (pv 1)) (pg_name (i := 3) sc_parted.nd rfl (.inl rfl)) (pss_one (ps_dput (hu_of hr) (pv 2) (pv 3) pe_bl rfl)))
    (pss_cons (ps_set (i := 4) sc_parted.nd rfl (.inl rfl) (pe_lst pa_nil))
    (pss_cons (ps_set (i := 5) sc_parted.nd rfl (.inl rfl) (pe_lst pa_nil))
    (pss_cons (ps_set (i := 6) sc_parted.nd rfl (.inl rfl) (pe_lst pa_nil))
    (pss_cons (ps_for PassesOwn.never rfl (pi_range1 (by rfl) B.range (pa_cons (pv 0) pa_nil)) (pg_name (i := 3) sc_parted.nd rfl (.inl rfl)) (pss_one (ps_if (pt_cmp (pc_dnotin (hu_of hr) (pv 3) (pv 2)) rfl) (pss_one (ps_expr (pe_bm PySem.F.plainAttrs_list PySem.F.slot_list_append PySem.F.type_list_append mt_append (pv 6) (pa_cons (pv 3) pa_nil)))) (pss_one (ps_if (pt_cmpR op_gt (pe_callB call_len_seq (by rfl) B.len (by decide +kernel) (pa_cons (pv 6) pa_nil)) pe_int (nomark _)) (pss_one (ps_expr (pe_bm PySem.F.plainAttrs_list PySem.F.slot_list_append PySem.F.type_list_append mt_append (pv 4) (pa_cons (pe_tup (pa_cons (pe_bm0 PySem.F.plainAttrs_list PySem.F.slot_list_pop PySem.F.type_list_pop mt_pop (pv 6)) (pa_cons (pv 3) pa_nil))) pa_nil)))) (pss_one (ps_expr (pe_bm PySem.F.plainAttrs_list PySem.F.slot_list_append PySem.F.type_list_append mt_append (pv 5) (pa_cons (pv 3) pa_nil)))))))))
    (pss_one (ps_ret (pe_tup (pa_cons (pe_callB cr_sortedQ (by rfl) B.sorted (by decide +kernel) (pa_cons (pv 4) pa_nil)) (pa_cons (pv 5) (pa_cons (pv 6) pa_nil)))))))))))), ?_⟩
    intro d nd
    have s0 : Same H (upd H d (.dK [])) := same_new nd
    refine ⟨_, rfl, a, rfl, ⟨_, s0.seq hS⟩, ?_⟩
    refine for_list (K := K) (a := a) (xs := ms.map V.int) (fun i σ H' => Same H H' ∧ KD H' d (ms.take i) ∧ ∃ y : Option V, σ = [some (.int (n : Int)), some (.ref a), some (.ref d), y, none, none, none]) ⟨s0, KD.nil upd_same, none, rfl⟩ (fun i σ H' _ ⟨e, _⟩ => e.seq hS) ?_ ?_
    · rintro i x σ H1 hi ⟨s1, kd, y, rfl⟩
      obtain ⟨v, hv, rfl⟩ := at_map hi
      obtain ⟨o, dp, k2⟩ := kd.put (by rw [List.length_take]; omega) v (.bl true)
      refine ⟨_, rfl, _, rfl, d, _, rfl, dp, same_mut s1 nd, ?_, some (.int v), rfl⟩
      rw [take_snoc hv]
      exact k2 _ upd_same
    · rintro σ H1 ⟨s1, kd, y, rfl⟩
      rw [List.length_map, List.take_length] at kd
      refine ⟨sz_le (by show 0 ≤ _; omega), fun pl npl => ?_⟩
      refine ⟨sz_le (by show 0 ≤ _; omega), fun al nal => ?_⟩
      refine ⟨sz_le (by show 0 ≤ _; omega), fun wa nwa => ?_⟩
      have e1 : pl ≠ al := ne_of_none upd_same nal
      have e2 : al ≠ wa := ne_of_none upd_same nwa
      have e3 : pl ≠ wa := ne_of_none (o := .lst []) (by rw [upd_ne e1, upd_same]) nwa
      have s2 : Same H1 (upd (upd (upd H1 pl (.lst [])) al (.lst [])) wa (.lst [])) := ((same_new npl).trans (same_new nal)).trans (same_new nwa)
      have npl0 : H pl = none := s1.free npl
      have nal0 : H al = none := (s1.trans (same_new npl)).free nal
      have nwa0 : H wa = none := ((s1.trans (same_new npl)).trans (same_new nal)).free nwa
      refine ⟨_, rfl, (n : Int), rfl, by omega, by omega, ?_⟩
      refine for_range (lo := 0) (n := ((n : Int)).toNat) (fun i σ H' => Same H H' ∧ KD H' d ms ∧ ∃ (ts : List Addr) (y : Option V), σ = [some (.int (n : Int)), some (.ref a), some (.ref d), y, some (.ref pl), some (.ref al), some (.ref wa)] ∧
        H' pl = some (.lst (ts.map V.ref)) ∧ Tups H' ts (st (mem ms) i).prs ∧ H' al = some (.lst ((st (mem ms) i).aln.map V.int)) ∧ H' wa = some (.lst ((st (mem ms) i).wt.map V.int)))
        ⟨s1.trans s2, kd.same s2, [], y, rfl, by rw [upd_ne e3, upd_ne e1, upd_same]; rfl, .nil, by rw [upd_ne e2, upd_same]; rfl, by rw [upd_same]; rfl⟩ ?_ ?_
      · rintro i σ H2 hi ⟨s3, kd2, ts, y2, rfl, hp, ht, ha, hw⟩
        have hi' : i < n := by omega
        have dne : ∀ b xs, H2 b = some (.lst xs) → d ≠ b := fun b xs e => by
          obtain ⟨kvs, h1, _⟩ := kd2
          exact ne_of h1 e (by intro z; cases z)
        have dpl := dne _ _ hp
        have dal := dne _ _ ha
        have dwa := dne _ _ hw
        obtain ⟨o, dg, ho⟩ := kd2.get ((0 : Int) + (i : Int))
        have ei : ((0 : Int) + (i : Int)) = (i : Int) := Int.zero_add _
        have okS := ok_st (mem ms) i
        have step : st (mem ms) (i + 1) = stp (mem ms i) i (st (mem ms) i) := rfl
        have lens := okS.sum
        refine ⟨_, rfl, _, rfl, d, o, rfl, dg, _, rfl, ?_⟩
        rw [ho, ei]
        cases hc : ms.contains (i : Int) with
        | false =>
          have hc' : mem ms i = false := hc
          rw [hc', stp_no] at step
          refine iteT ?_
          refine ⟨_, rfl, .inl ⟨rfl, _, SqL.of hw⟩, _, rfl, wa, _, _, rfl, rfl, hw, sz_lt (by rw [List.length_map]; omega), ?_⟩
          refine ⟨same_mut s3 nwa0, kd2.at (upd_ne dwa), ts, some (.int (i : Int)), rfl, by rw [upd_ne e3]; exact hp, ?_, ?_, ?_⟩
          · rw [step]; exact ht.upd hw
          · rw [step, upd_ne e2]; exact ha
          · rw [step, upd_same, List.map_append]
            rfl
        | true =>
          have hc' : mem ms i = true := hc
          rw [hc'] at step
          refine iteF ?_
          refine ⟨_, rfl, wa, _, rfl, .inl (SqL.of hw), _, _, rfl, rfl, _, rfl, ?_⟩
          rcases snoc_cases (st (mem ms) i).wt with z | ⟨r, wl, z⟩
          · rw [stp_alone z] at step
            refine ite2 (fun h1 => ?_) (fun _ => ?_)
            · have := of_decide_eq_true h1
              rw [z] at this
              exact absurd this (by decide)
            · refine ⟨_, rfl, .inl ⟨rfl, _, SqL.of ha⟩, _, rfl, al, _, _, rfl, rfl, ha, sz_lt (by rw [List.length_map]; omega), ?_⟩
              refine ⟨same_mut s3 nal0, kd2.at (upd_ne dal), ts, some (.int (i : Int)), rfl, by rw [upd_ne e1]; exact hp, ?_, ?_, ?_⟩
              · rw [step]; exact ht.upd ha
              · rw [step, upd_same, List.map_append]
                rfl
              · rw [step, upd_ne e2.symm, hw, z]
          · rw [stp_pop z] at step
            have hw' := hw
            rw [z, List.map_append] at hw'
            refine ite2 (fun _ => ?_) (fun h1 => ?_)
            · refine ⟨_, rfl, .inl ⟨rfl, _, SqL.of hp⟩, _, rfl, .inl ⟨rfl, _, SqL.of hw'⟩, wa, _, .int wl, rfl, rfl, hw', by simp, _, rfl, sz_le (by show 2 ≤ _; omega), fun T nT => ?_⟩
              have tne : ∀ b xs, H2 b = some xs → b ≠ wa → b ≠ T := fun b xs e n => ne_of_none (H := upd H2 wa (.lst (List.map V.int r ++ List.map V.int [wl]).dropLast)) (o := xs) (by rw [upd_ne n]; exact e) nT
              have Twa : wa ≠ T := ne_of_none upd_same nT
              have hp2 : (upd (upd H2 wa (.lst (List.map V.int r ++ List.map V.int [wl]).dropLast)) T (.tup [V.int wl, V.int (i : Int)])) pl = some (.lst (ts.map V.ref)) := by
                rw [upd_ne (tne _ _ hp e3), upd_ne e3]
                exact hp
              refine ⟨pl, _, _, rfl, rfl, hp2, sz_lt (by rw [List.length_map, ht.len]; omega), ?_⟩
              have s4 : Same H (upd (upd (upd H2 wa (.lst (List.map V.int r ++ List.map V.int [wl]).dropLast)) T (.tup [V.int wl, V.int (i : Int)])) pl (.lst (ts.map V.ref ++ [.ref T]))) :=
                same_mut ((same_mut s3 nwa0).trans (same_new nT)) npl0
              refine ⟨s4, kd2.at ?_, ts ++ [T], some (.int (i : Int)), rfl, ?_, ?_, ?_, ?_⟩
              · obtain ⟨kvs, hk, _⟩ := kd2
                rw [upd_ne dpl, upd_ne (tne _ _ hk dwa), upd_ne dwa]
              · rw [upd_same, List.map_append]
                rfl
              · rw [step]
                refine Tups.upd ?_ hp2
                refine Tups.snoc ?_ ?_
                · exact (ht.upd hw).same (same_new nT)
                · rw [upd_same]
              · rw [step, upd_ne e1.symm, upd_ne (tne _ _ ha e2), upd_ne e2]
                exact ha
              · rw [step, upd_ne e3.symm, upd_ne Twa, upd_same]
                simp
            · refine absurd (decide_eq_true ?_) h1
              rw [z]
              simp
      · rintro σ H2 ⟨s3, kd2, ts, y2, rfl, hp, ht, ha, hw⟩
        refine ⟨_, rfl, pl, ts, _, rfl, SqL.of hp, ht, fun s ts' nS ht' => ?_⟩
        refine ⟨_, rfl, _, rfl, sz_le (by show 3 ≤ _; omega), fun p np => ?_⟩
        have as : al ≠ s := ne_of_none ha nS
        have ws : wa ≠ s := ne_of_none hw nS
        have s5 : Same H (upd H2 s (.lst (ts'.map V.ref))) := s3.trans (same_new nS)
        have ap : al ≠ p := ne_of_none (H := upd H2 s (.lst (ts'.map V.ref))) (by rw [upd_ne as]; exact ha) np
        have wp : wa ≠ p := ne_of_none (H := upd H2 s (.lst (ts'.map V.ref))) (by rw [upd_ne ws]; exact hw) np
        have sp : s ≠ p := ne_of_none upd_same np
        refine q _ p s al wa ts' ⟨s5.trans (same_new np), s5.free np, s3.free nS, nal0, nwa0, e2, as.symm, ws.symm, upd_same, ?_, ?_, ?_, ?_⟩
        · rw [upd_ne sp, upd_same]
        · exact (ht'.same (same_new nS)).same (same_new np)
        · rw [upd_ne ap, upd_ne as]; exact ha
        · rw [upd_ne wp, upd_ne ws]; exact hw
/-! #### picks -/
def spPicks : Sp := fun vs H Q _ => ∃ t s : Int, vs = [.int t, .int s] ∧ t ≤ 60 ∧ Q (.int (picks t s)) H
theorem ok_picks (A : At K mg "picks" s_picks) (B : Bt mg tM) :
    Def P w K mg base CX0 1 "picks" ["total", "some"] spPicks := by
  obtain ⟨f, fd, F, gm⟩ := A
  refine ⟨⟨f, fd, F.ok sc_picks (fun vs H Q E h => ?_) (fun cdv A outer s H vs Q E hr h => ?_), gm, F.kp, F.binds fun _ _ _ _ _ _ us hl => match us, hl with | [_, _], _ => rfl⟩⟩
  · obtain ⟨t, s, rfl, _⟩ := h
    rfl
  · obtain ⟨t, s, rfl, ht, q⟩ := h
    refine ⟨_, (pss_cons (ps_if (PW.pt (pw_or (pt_cmpR op_lt (pv 1) pe_int (nomark _)) (pw_or1 (pt_cmpR op_gt (pv 1) (pv 0) (nomark _))))) (pss_one (ps_ret pe_int)) pss_nil)
    (pss_cons (ps_set (i := 2) sc_picks.nd rfl (.inl rfl) pe_int)
    (pss_cons (ps_for PassesOwn.never rfl (pi_range1 (by rfl) B.range (pa_cons (pv 1) pa_nil)) (pg_name (i := 3) sc_picks.nd rfl (.inl rfl)) (pss_one (ps_set (i := 2) sc_picks.nd rfl (.inl rfl) (pe_op op_fdiv (pe_op op_mul (pv 2) (pe_op op_sub (pv 0) (pv 3))) (pe_op op_add (pv 3) pe_int)))))
    (pss_one (ps_ret (pv 2)))))), ?_⟩
    have fin : (s < 0 ∨ t < s) → Q (.int 0) H := fun h => by
      have e : picks t s = 0 := if_pos h
      rw [← e]
      exact q
    refine ⟨_, rfl, s, 0, rfl, rfl, _, rfl, ite2 (fun h1 => ?_) (fun h1 => ?_)⟩
    · exact iteT (fin (.inl (of_decide_eq_true h1)))
    · have h1' : ¬ s < 0 := fun z => h1 (decide_eq_true z)
      refine ⟨_, rfl, _, rfl, s, t, rfl, rfl, _, rfl, ite2 (fun h2 => ?_) (fun h2 => ?_)⟩
      · exact fin (.inr (of_decide_eq_true h2))
      · have h2' : ¬ t < s := fun z => h2 (decide_eq_true z)
        obtain ⟨n, rfl⟩ : ∃ n : Nat, t = (n : Int) := ⟨t.toNat, by omega⟩
        obtain ⟨k, rfl⟩ : ∃ k : Nat, s = (k : Int) := ⟨s.toNat, by omega⟩
        refine ⟨_, rfl, (k : Int), rfl, by omega, by omega, ?_⟩
        refine for_range (lo := 0) (n := ((k : Int)).toNat) (fun i σ H' => H' = H ∧ ∃ y, σ = [some (.int (n : Int)), some (.int (k : Int)), some (.int (ch n i : Int)), y]) ⟨rfl, none, by rw [ch_zero]; rfl⟩ ?_ ?_
        · rintro i σ H' hi ⟨rfl, y, rfl⟩
          have hi' : i ≤ n := by omega
          have b1 := ch_le n i
          have b2 : (2 : Nat) ^ n ≤ 2 ^ 60 := Nat.pow_le_pow_right (by decide) (by omega)
          refine ⟨_, rfl, _, rfl, _, rfl, _, _, rfl, rfl, _, _, rfl, rfl, .inl ⟨by omega, by omega⟩, _, rfl, _, _, rfl, rfl, _, _, rfl, rfl, ⟨by omega, by omega⟩, rfl, some (.int ((0 : Int) + (i : Int))), ?_⟩
          show _ = [_, _, some (V.int (ch n (i + 1) : Int)), _]
          rw [← ch_div hi', Int.zero_add]
          rfl
        · rintro σ H' ⟨rfl, y, rfl⟩
          refine ⟨_, rfl, ?_⟩
          show Q (.int (ch n ((k : Int)).toNat : Int)) _
          rw [show ((k : Int)).toNat = k from rfl, ← picks_nat]
          exact q
/-! #### endings -/
def spEnd : Sp := fun vs H Q _ => ∃ r c w : Int, vs = [.int r, .int c, .int w] ∧ r ≤ 60 ∧ Q (.int (en r c w)) H
theorem ok_endings (A : At K mg "endings" s_endings) (B : Bt mg tM) (D_picks : Def P w K mg base CX0 1 "picks" ["total", "some"] spPicks) :
    Def P w K mg base CX0 2 "endings" ["rest", "closing", "waiting"] spEnd := by
  obtain ⟨f, fd, F, gm⟩ := A
  obtain ⟨f_picks, fd_picks, G_picks, g_picks, k_picks, b_picks⟩ := D_picks.ex
  refine ⟨⟨f, fd, F.ok sc_endings (fun vs H Q E h => ?_) (fun cdv A outer s H vs Q E hr h => ?_), gm, F.kp, F.binds fun _ _ _ _ _ _ us hl => match us, hl with | [_, _, _], _ => rfl⟩⟩
  · obtain ⟨r, c, w, rfl, _⟩ := h
    rfl
  · obtain ⟨r, c, w, rfl, hr', q⟩ := h
    refine ⟨_, (pss_one (ps_ret (pe_op op_sub (pe_call G_picks (hr.mono (by decide)) (by rfl) g_picks k_picks b_picks .nil pass0 (pa_cons (pv 0) (pa_cons (pv 1) pa_nil))) (pe_call G_picks (hr.mono (by decide)) (by rfl) g_picks k_picks b_picks .nil pass0 (pa_cons (pv 0) (pa_cons (pe_op op_sub (pe_op op_sub (pv 1) (pv 2)) pe_int) pa_nil)))))), ?_⟩
    exact ⟨_, rfl, _, rfl, r, c, rfl, hr', _, rfl, _, rfl, _, rfl, _, _, rfl, rfl, _, _, rfl, rfl, r, c - w - 1, rfl, hr', _, _, rfl, rfl, q⟩
/-! #### how_many -/
def spHow (C : Addr) : Sp := fun vs H Q E => ∃ m : Int, vs = [.int m] ∧ ((m < 0 ∨ 40 < m) → E (.ref C) none H) ∧ (¬ (m < 0 ∨ 40 < m) → Q (.int (picks m (m / 2))) H)
theorem ok_how_many {C_NoMany : Addr} (A : At K mg "how_many" s_how_many) (B : Bt mg tM) (D_asked_many : Def P w K mg base (L2.CX P w) 1 "asked_many" ["many", "most"] (spMany C_NoMany)) (D_picks : Def P w K mg base CX0 1 "picks" ["total", "some"] spPicks) :
    Def P w K mg base (L2.CX P w) 2 "how_many" ["many"] (spHow C_NoMany) := by
  obtain ⟨f, fd, F, gm⟩ := A
  obtain ⟨f_asked_many, fd_asked_many, G_asked_many, g_asked_many, k_asked_many, b_asked_many⟩ := D_asked_many.ex
  obtain ⟨f_picks, fd_picks, G_picks, g_picks, k_picks, b_picks⟩ := D_picks.ex
  refine ⟨⟨f, fd, F.okX sc_how_many (fun vs H Q E h => ?_) (fun cdv A outer s H vs Q E hr h => ?_), gm, F.kp, F.binds fun _ _ _ _ _ _ us hl => match us, hl with | [_], _ => rfl⟩⟩
  · obtain ⟨m, rfl, _⟩ := h
    rfl
  · obtain ⟨m, rfl, kE, kQ⟩ := h
    have tk := takes_of (X := cxOf (L2.CX P w) P w K mg base ["many"] "how_many" (defScope s_how_many) f cdv A outer s H E) (E := E) rfl rfl rfl rfl
    refine ⟨_, (pss_cons (ps_expr (pe_call G_asked_many (hr.mono (by decide)) (by rfl) g_asked_many k_asked_many b_asked_many .nil (passes_call tk (fun _ _ _ _ h => h)) (pa_cons (pv 0) (pa_cons (pe_glob (v := .int 40) rfl B.MOST ⟨_, rfl⟩) pa_nil))))
    (pss_one (ps_ret (pe_call G_picks (hr.mono (by decide)) (by rfl) g_picks k_picks b_picks .nil pass0 (pa_cons (pv 0) (pa_cons (pe_op op_fdiv (pv 0) pe_int) pa_nil)))))), ?_⟩
    refine ⟨_, rfl, m, 40, rfl, kE, fun hm => ?_⟩
    exact ⟨_, rfl, _, rfl, _, _, rfl, rfl, ⟨by decide, by decide⟩, m, m / 2, rfl, by omega, kQ hm⟩
/-! #### bottom_at -/
def spBotAt : Sp := fun vs H Q _ => ∃ (n : Nat) (s k : Int), vs = [.int (n : Int), .int s, .int k] ∧ n ≤ 60 ∧
  ∀ p, H p = none → Q (.ref p) (upd H p (.lst ((tr (bw n s 0 k)).map V.int)))
theorem ok_bottom_at (A : At K mg "bottom_at" s_bottom_at) (B : Bt mg tM) (D_endings : Def P w K mg base CX0 2 "endings" ["rest", "closing", "waiting"] spEnd) :
    Def P w K mg base CX0 3 "bottom_at" ["many", "size", "number"] spBotAt := by
  obtain ⟨f, fd, F, gm⟩ := A
  obtain ⟨f_endings, fd_endings, G_endings, g_endings, k_endings, b_endings⟩ := D_endings.ex
  refine ⟨⟨f, fd, F.ok sc_bottom_at (fun vs H Q E h => ?_) (fun cdv A outer s H vs Q E hr h => ?_), gm, F.kp, F.binds fun _ _ _ _ _ _ us hl => match us, hl with | [_, _, _], _ => rfl⟩⟩
  · obtain ⟨n, s, k, rfl, _⟩ := h
    rfl
  · obtain ⟨n, s, k, rfl, hn, q⟩ := h
    refine ⟨_, (pss_cons (ps_set (i := 3) sc_bottom_at.nd rfl (.inl rfl) (pe_lst pa_nil))
    (pss_cons (ps_set (i := 4) sc_bottom_at.nd rfl (.inl rfl) pe_int)
    (pss_cons (ps_for PassesOwn.never rfl (pi_range1 (by rfl) B.range (pa_cons (pv 0) pa_nil)) (pg_name (i := 5) sc_bottom_at.nd rfl (.inl rfl)) (pss_cons (ps_set (i := 6) sc_bottom_at.nd rfl (.inl rfl) (pe_call G_endings (hr.mono (by decide)) (by rfl) g_endings k_endings b_endings .nil pass0 (pa_cons (pe_op op_sub (pe_op op_sub (pv 0) (pv 5)) pe_int) (pa_cons (pe_op op_sub (pv 1) (pe_callB call_len_seq (by rfl) B.len (by decide +kernel) (pa_cons (pv 3) pa_nil))) (pa_cons (pe_op op_add (pv 4) pe_int) pa_nil)))))
    (pss_one (ps_if (pt_cmpR op_lt (pv 2) (pv 6) (nomark _)) (pss_one (ps_set (i := 4) sc_bottom_at.nd rfl (.inl rfl) (pe_op op_add (pv 4) pe_int))) (pss_cons (ps_set (i := 2) sc_bottom_at.nd rfl (.inl rfl) (pe_op op_sub (pv 2) (pv 6)))
    (pss_cons (ps_expr (pe_bm PySem.F.plainAttrs_list PySem.F.slot_list_append PySem.F.type_list_append mt_append (pv 3) (pa_cons (pv 5) pa_nil)))
    (pss_one (ps_set (i := 4) sc_bottom_at.nd rfl (.inl rfl) (pe_op op_sub (pv 4) pe_int)))))))))
    (pss_one (ps_ret (pv 3)))))), ?_⟩
    refine ⟨sz_le (by show 0 ≤ _; omega), fun p np => ?_⟩
    refine ⟨_, rfl, (n : Int), rfl, by omega, by omega, ?_⟩
    refine for_range (lo := 0) (n := ((n : Int)).toNat) (fun i σ H' => ∃ (pre : List Bool) (w k' : Int) (y z : Option V), H' = upd H p (.lst ((tr pre).map V.int)) ∧ pre.length = i ∧
      pre ++ bw (n - i) (s - ((tr pre).length : Nat)) w k' = bw n s 0 k ∧ σ = [some (.int (n : Int)), some (.int s), some (.int k'), some (.ref p), some (.int w), y, z])
      ⟨[], 0, k, none, none, rfl, rfl, by show bw n (s - 0) 0 k = _; rw [Int.sub_zero], rfl⟩ ?_ ?_
    · rintro i σ H' hi ⟨pre, w, k', y, z, rfl, hl, e, rfl⟩
      have hi' : i < n := by omega
      obtain ⟨d, hd⟩ : ∃ d, n - i = d + 1 := ⟨n - i - 1, by omega⟩
      rw [hd] at e
      have ls := (tr_set pre).len
      have e1 : (n : Int) - ((0 : Int) + (i : Int)) - 1 = (d : Int) := by omega
      have e2 : n - (i + 1) = d := by omega
      have hp : (upd H p (.lst ((tr pre).map V.int))) p = some (.lst ((tr pre).map V.int)) := upd_same
      refine ⟨_, rfl, _, rfl, _, _, rfl, rfl, _, _, rfl, rfl, _, rfl, _, rfl, p, _, rfl, .inl (SqL.of hp), _, _, rfl, rfl, _, rfl, _, _, rfl, rfl, (d : Int), s - ((tr pre).length : Nat), w + 1, ?_, by omega, ?_⟩
      · rw [List.length_map, ← e1]
        rfl
      have eb : bw (d + 1) (s - ((tr pre).length : Nat)) w k' = if k' < en d (s - ((tr pre).length : Nat)) (w + 1) then false :: bw d (s - ((tr pre).length : Nat)) (w + 1) k' else true :: bw d (s - ((tr pre).length : Nat) - 1) (w - 1) (k' - en d (s - ((tr pre).length : Nat)) (w + 1)) := rfl
      refine ⟨_, rfl, _, rfl, _, _, rfl, rfl, _, rfl, ite2 (fun h1 => ?_) (fun h1 => ?_)⟩
      · have h1' := of_decide_eq_true h1
        rw [eb, if_pos h1'] at e
        refine ⟨_, rfl, _, _, rfl, rfl, ?_⟩
        refine ⟨pre ++ [false], w + 1, k', _, _, ?_, by rw [List.length_append, List.length_singleton, hl], ?_, rfl⟩
        · rw [tr_snoc, if_neg (by decide)]
        · rw [tr_snoc, if_neg (by decide), e2, List.append_assoc]
          exact e
      · have h1' : ¬ k' < _ := fun z => h1 (decide_eq_true z)
        rw [eb, if_neg h1'] at e
        refine ⟨_, rfl, _, rfl, _, _, rfl, rfl, ?_⟩
        refine ⟨_, rfl, .inl ⟨rfl, _, SqL.of hp⟩, _, rfl, p, _, _, rfl, rfl, hp, sz_lt (by rw [List.length_map]; omega), ?_⟩
        refine ⟨_, rfl, _, _, rfl, rfl, ?_⟩
        refine ⟨pre ++ [true], w - 1, k' - en d (s - ((tr pre).length : Nat)) (w + 1), _, _, ?_, by rw [List.length_append, List.length_singleton, hl], ?_, rfl⟩
        · rw [tr_snoc, if_pos rfl, upd_upd, List.map_append, Int.zero_add, hl]
          rfl
        · rw [tr_snoc, if_pos rfl, e2, List.append_assoc, List.length_append, List.length_singleton]
          rw [← e, show s - (((tr pre).length + 1 : Nat) : Int) = s - ((tr pre).length : Nat) - 1 by omega]
          rfl
    · rintro σ H' ⟨pre, w, k', y, z, rfl, hl, e, rfl⟩
      have en : n - ((n : Int)).toNat = 0 := by omega
      rw [en] at e
      have e' : pre = bw n s 0 k := by rw [← e]; exact (List.append_nil _).symm
      rw [e']
      exact ⟨_, rfl, q p np⟩
/-! #### bottom_of -/
theorem how_mid {n : Nat} : picks (n : Int) ((n : Int) / 2) = (ch n (n / 2) : Int) := by
  rw [show ((n : Int) / 2) = ((n / 2 : Nat) : Int) by omega, picks_nat]
/-- the program's own looks at a number -/
def NGuard (CM CN : Addr) (m N : Int) (E : XK) (H : Hp) (good : Prop) : Prop :=
  ((m < 0 ∨ 40 < m) → E (.ref CM) none H) ∧ (∀ n : Nat, m = (n : Int) → n ≤ 40 → (N < 0 ∨ (ch n (n / 2) : Int) ≤ N) → E (.ref CN) none H) ∧ (∀ n : Nat, m = (n : Int) → n ≤ 40 → 0 ≤ N → N < (ch n (n / 2) : Int) → good)
theorem NGuard.of {CM CN : Addr} {n : Nat} {N : Int} {E : XK} {H : Hp} {good : Prop} (hn : n ≤ 40) (h0 : 0 ≤ N) (h1 : N < (ch n (n / 2) : Int)) (g : good) : NGuard CM CN n N E H good :=
  ⟨fun z => absurd z (by omega), fun n' e _ z => by have e' : n = n' := (by omega); subst e'; omega, fun _ _ _ _ _ => g⟩
def spBotOf (CM CN : Addr) : Sp := fun vs H Q E => ∃ m N : Int, vs = [.int m, .int N] ∧ NGuard CM CN m N E H (∀ p, H p = none → Q (.ref p) (upd H p (.lst ((bottomL m.toNat N).map V.int))))
theorem ok_bottom_of {C_NoMany : Addr} {C_NoNumber : Addr} (A : At K mg "bottom_of" s_bottom_of) (B : Bt mg tM) (X_NoNumber : XT K mg "NoNumber" C_NoNumber) (D_asked_many : Def P w K mg base (L2.CX P w) 1 "asked_many" ["many", "most"] (spMany C_NoMany)) (D_bottom_at : Def P w K mg base CX0 3 "bottom_at" ["many", "size", "number"] spBotAt) (D_endings : Def P w K mg base CX0 2 "endings" ["rest", "closing", "waiting"] spEnd) (D_how_many : Def P w K mg base (L2.CX P w) 2 "how_many" ["many"] (spHow C_NoMany)) :
    Def P w K mg base (L2.CX P w) 4 "bottom_of" ["many", "number"] (spBotOf C_NoMany C_NoNumber) := by
  obtain ⟨f, fd, F, gm⟩ := A
  obtain ⟨f_asked_many, fd_asked_many, G_asked_many, g_asked_many, k_asked_many, b_asked_many⟩ := D_asked_many.ex
  obtain ⟨f_bottom_at, fd_bottom_at, G_bottom_at, g_bottom_at, k_bottom_at, b_bottom_at⟩ := D_bottom_at.ex
  obtain ⟨f_endings, fd_endings, G_endings, g_endings, k_endings, b_endings⟩ := D_endings.ex
  obtain ⟨f_how_many, fd_how_many, G_how_many, g_how_many, k_how_many, b_how_many⟩ := D_how_many.ex
  refine ⟨⟨f, fd, F.okX sc_bottom_of (fun vs H Q E h => ?_) (fun cdv A outer s H vs Q E hr h => ?_), gm, F.kp, F.binds fun _ _ _ _ _ _ us hl => match us, hl with | [_, _], _ => rfl⟩⟩
  · obtain ⟨m, N, rfl, _⟩ := h
    rfl
  · obtain ⟨m, N, rfl, kM, kN, kQ⟩ := h
    have tk := takes_of (X := cxOf (L2.CX P w) P w K mg base ["many", "number", "size"] "bottom_of" (defScope s_bottom_of) f cdv A outer s H E) (E := E) rfl rfl rfl rfl
    refine ⟨_, (pss_cons (ps_expr (pe_call G_asked_many (hr.mono (by decide)) (by rfl) g_asked_many k_asked_many b_asked_many .nil (passes_call tk (fun _ _ _ _ h => h)) (pa_cons (pv 0) (pa_cons (pe_glob (v := .int 40) rfl B.MOST ⟨_, rfl⟩) pa_nil))))
    (pss_cons (ps_if (PW.pt (pw_or (pt_cmpR op_lt (pv 1) pe_int (nomark _)) (pw_or1 (pt_cmpR op_ge (pv 1) (pe_call G_how_many (hr.mono (by decide)) (by rfl) g_how_many k_how_many b_how_many .nil (passes_call tk (fun _ _ _ _ h => h)) (pa_cons (pv 0) pa_nil)) (nomark _))))) (pss_one (ps_raise rfl tk (pmk_own PySem.F.excBase_ValueError X_NoNumber.x X_NoNumber.g X_NoNumber.k (raises_own X_NoNumber.b X_NoNumber.t) (by rfl)))) pss_nil)
    (pss_cons (ps_set (i := 2) sc_bottom_of.nd rfl (.inl rfl) pe_int)
    (pss_cons (ps_while (passes_of rfl) (pt_cmpR op_ge (pv 1) (pe_call G_endings (hr.mono (by decide)) (by rfl) g_endings k_endings b_endings .nil pass0 (pa_cons (pv 0) (pa_cons (pv 2) (pa_cons pe_int pa_nil)))) (nomark _)) (pss_cons (ps_set (i := 1) sc_bottom_of.nd rfl (.inl rfl) (pe_op op_sub (pv 1) (pe_call G_endings (hr.mono (by decide)) (by rfl) g_endings k_endings b_endings .nil pass0 (pa_cons (pv 0) (pa_cons (pv 2) (pa_cons pe_int pa_nil))))))
    (pss_one (ps_set (i := 2) sc_bottom_of.nd rfl (.inl rfl) (pe_op op_add (pv 2) pe_int)))))
    (pss_one (ps_ret (pe_call G_bottom_at (hr.mono (by decide)) (by rfl) g_bottom_at k_bottom_at b_bottom_at .nil pass0 (pa_cons (pv 0) (pa_cons (pv 2) (pa_cons (pv 1) pa_nil)))))))))), ?_⟩
    refine ⟨_, rfl, m, 40, rfl, kM, fun hm => ?_⟩
    obtain ⟨n, rfl⟩ : ∃ n : Nat, m = (n : Int) := ⟨m.toNat, by omega⟩
    have hn : n ≤ 40 := by omega
    have kN := kN n rfl hn
    have kQ := kQ n rfl hn
    rw [show ((n : Int)).toNat = n from rfl] at kQ
    refine ⟨_, rfl, N, 0, rfl, rfl, _, rfl, ite2 (fun h1 => ?_) (fun h1 => ?_)⟩
    · exact iteT (kN (.inl (of_decide_eq_true h1)))
    have h1' : ¬ N < 0 := fun z => h1 (decide_eq_true z)
    refine ⟨_, rfl, _, rfl, (n : Int), rfl, fun z => absurd z hm, fun _ => ?_⟩
    rw [how_mid]
    refine ⟨N, _, rfl, rfl, _, rfl, ite2 (fun h2 => ?_) (fun h2 => ?_)⟩
    · exact kN (.inr (of_decide_eq_true h2))
    have h2' : N < (ch n (n / 2) : Int) := by
      have : ¬ (ch n (n / 2) : Int) ≤ N := fun z => h2 (decide_eq_true z)
      omega
    refine while_by (fun σ H' => H' = H ∧ ∃ s : Nat, s ≤ n / 2 ∧ (∀ t : Nat, t < s → (ch n t : Int) ≤ N) ∧ σ = [some (.int (n : Int)), some (.int (N - picks n ((s : Int) - 1))), some (.int (s : Int))])
      (fun σ _ => match σ with | [_, _, some (.int s)] => n + 1 - s.toNat | _ => 0) ⟨rfl, 0, by omega, fun t ht => absurd ht (by omega), ?_⟩ ?_ ?_
    · rw [pk_neg (show ((0 : Nat) : Int) - 1 < 0 by omega), Int.sub_zero]
      rfl
    · rintro σ H' ⟨rfl, s, hs, hb, rfl⟩
      refine ⟨_, rfl, _, rfl, _, rfl, (n : Int), (s : Int), 0, rfl, by omega, _, _, rfl, rfl, _, rfl, ?_⟩
      rw [en_top]
      refine ite2 (fun h3 => ?_) (fun h3 => ?_)
      · have h3 := of_decide_eq_true h3
        have h3' : (ch n s : Int) ≤ N := by omega
        have sn : s + 1 ≤ n / 2 := by
          by_cases z : s = n / 2
          · rw [z] at h3'
            omega
          · omega
        refine ⟨_, rfl, _, rfl, _, rfl, (n : Int), (s : Int), 0, rfl, by omega, _, _, rfl, rfl, ?_⟩
        refine ⟨_, rfl, _, _, rfl, rfl, ?_⟩
        refine ⟨⟨rfl, s + 1, sn, fun t ht => ?_, ?_⟩, ?_⟩
        · by_cases z : t = s
          · rw [z]; exact h3'
          · exact hb t (by omega)
        · rw [en_top]
          show [some (V.int (n : Int)), some (V.int (N - picks n ((s : Int) - 1) - ((ch n s : Int) - picks n ((s : Int) - 1)))), some (V.int ((s : Int) + 1))] = [some (V.int (n : Int)), some (V.int (N - picks n (((s + 1 : Nat) : Int) - 1))), some (V.int ((s + 1 : Nat) : Int))]
          rw [show (((s + 1 : Nat) : Int) - 1) = (s : Int) by omega, picks_nat, show N - picks n ((s : Int) - 1) - ((ch n s : Int) - picks n ((s : Int) - 1)) = N - (ch n s : Int) by omega]
          rfl
        · show n + 1 - ((s : Int) + 1).toNat < n + 1 - ((s : Int)).toNat
          omega
      · have h3' : ¬ _ := fun z => h3 (decide_eq_true z)
        have e : sz n N = s := sz_eq (by omega) hb h2'
        refine ⟨_, rfl, _, rfl, _, rfl, n, (s : Int), _, rfl, by omega, fun p np => ?_⟩
        have kq := kQ (by omega) h2' p np
        unfold bottomL at kq
        rw [e] at kq
        exact kq
    · rintro σ H' Q1 Q2 imp h
      obtain ⟨x1, h1, x2, h2, x3, h3, r, c, w, e1, h4, a, b, h5, h6, h7⟩ := h
      obtain ⟨b', h8, h9⟩ := h7
      exact ⟨x1, h1, x2, h2, x3, h3, r, c, w, e1, h4, a, b, h5, h6, b', h8, imp _ _ h9⟩
/-! #### set_of -/
theorem bot_loo {n : Nat} {b : List Int} (ha : (fin n b).aln = []) : loo n b = (fin n b).wt := by
  show (fin n b).aln ++ (fin n b).wt = _
  rw [ha]
  rfl
theorem bot_cset {n : Nat} {b : List Int} (h : IsSet n b) (ha : (fin n b).aln = []) {j : Nat} : isort (b ++ (fin n b).wt.take j) = cset n b j := by
  have ws := fin_wt_set (n := n) b
  have nd : (b ++ (fin n b).wt.take j).Nodup := by
    refine List.nodup_append.mpr ⟨up_nodup h.up, up_nodup (up_take ws.up j), fun x hx y hy e => ?_⟩
    subst e
    exact (fin_wt_iff.mp (List.mem_of_mem_take hy)).2.1 hx
  refine up_ext (isort_up nd) (cset_set n b j).up fun x => ?_
  rw [isort_mem, List.mem_append, cset_mem, bot_loo ha]
  constructor
  · rintro (z | z)
    · exact ⟨⟨h.lo x z, h.hi x z⟩, .inr ⟨fun w => (fin_wt_iff.mp w).2.1 z, z⟩⟩
    · have w := List.mem_of_mem_take z
      exact ⟨⟨ws.lo x w, ws.hi x w⟩, .inl ⟨w, z⟩⟩
  · rintro ⟨_, ⟨_, z⟩ | ⟨_, z⟩⟩
    · exact .inr z
    · exact .inl z
/-- .. and at a place -/
def SGuard (CM CN : Addr) (m N pl : Int) (E : XK) (H : Hp) (good : Prop) : Prop :=
  ((m < 0 ∨ 40 < m) → E (.ref CM) none H) ∧ (∀ n : Nat, m = (n : Int) → n ≤ 40 → (N < 0 ∨ (ch n (n / 2) : Int) ≤ N) → E (.ref CN) none H) ∧
  (∀ n : Nat, m = (n : Int) → n ≤ 40 → 0 ≤ N → N < (ch n (n / 2) : Int) → (pl < 0 ∨ ((fin n (bottomL n N)).wt.length : Int) < pl) → ∀ H', Same H H' → E (.ref CN) none H') ∧
  (∀ (n j : Nat), m = (n : Int) → n ≤ 40 → 0 ≤ N → N < (ch n (n / 2) : Int) → pl = (j : Int) → j ≤ (fin n (bottomL n N)).wt.length → good)
theorem SGuard.of {CM CN : Addr} {n j : Nat} {N : Int} {E : XK} {H : Hp} {good : Prop} (hn : n ≤ 40) (h0 : 0 ≤ N) (h1 : N < (ch n (n / 2) : Int)) (hj : j ≤ (fin n (bottomL n N)).wt.length) (g : good) : SGuard CM CN n N j E H good :=
  ⟨fun z => absurd z (by omega), fun n' e _ z => by have e' : n = n' := (by omega); subst e'; omega, fun n' e _ _ _ z => by have e' : n = n' := (by omega); subst e'; omega, fun _ _ _ _ _ _ _ _ => g⟩
def spSetOf (CM CN : Addr) : Sp := fun vs H Q E => ∃ m N pl : Int, vs = [.int m, .int N, .int pl] ∧ SGuard CM CN m N pl E H (∀ H' p, Same H H' → H p = none → H' p = some (.lst ((cset m.toNat (bottomL m.toNat N) pl.toNat).map V.int)) → Q (.ref p) H')
theorem ok_set_of {C_NoMany : Addr} {C_NoNumber : Addr} (A : At K mg "set_of" s_set_of) (B : Bt mg tM) (X_NoNumber : XT K mg "NoNumber" C_NoNumber) (D_bottom_of : Def P w K mg base (L2.CX P w) 4 "bottom_of" ["many", "number"] (spBotOf C_NoMany C_NoNumber)) (D_parted : Def P w K mg base CX0 1 "parted" ["many", "members"] (spParted K)) :
    Def P w K mg base (L2.CX P w) 5 "set_of" ["many", "number", "place"] (spSetOf C_NoMany C_NoNumber) := by
  obtain ⟨f, fd, F, gm⟩ := A
  obtain ⟨f_bottom_of, fd_bottom_of, G_bottom_of, g_bottom_of, k_bottom_of, b_bottom_of⟩ := D_bottom_of.ex
  obtain ⟨f_parted, fd_parted, G_parted, g_parted, k_parted, b_parted⟩ := D_parted.ex
  refine ⟨⟨f, fd, F.okX sc_set_of (fun vs H Q E h => ?_) (fun cdv A outer s H vs Q E hr h => ?_), gm, F.kp, F.binds fun _ _ _ _ _ _ us hl => match us, hl with | [_, _, _], _ => rfl⟩⟩
  · obtain ⟨m, N, pl, rfl, _⟩ := h
    rfl
  · obtain ⟨m, N, pl, rfl, kM, kN, kP, kQ⟩ := h
    have tk := takes_of (X := cxOf (L2.CX P w) P w K mg base ["many", "number", "place", "bottom", "waiting"] "set_of" (defScope s_set_of) f cdv A outer s H E) (E := E) rfl rfl rfl rfl
    refine ⟨_, (pss_cons (ps_set (i := 3) sc_set_of.nd rfl (.inl rfl) (pe_call G_bottom_of (hr.mono (by decide)) (by rfl) g_bottom_of k_bottom_of b_bottom_of .nil (passes_call tk (fun _ _ _ _ h => h)) (pa_cons (pv 0) (pa_cons (pv 1) pa_nil))))
    (pss_cons (ps_set (i := 4) sc_set_of.nd rfl (.inl rfl) (pe_ix ix_tup (pe_call G_parted (hr.mono (by decide)) (by rfl) g_parted k_parted b_parted .nil pass0 (pa_cons (pv 0) (pa_cons (pv 3) pa_nil))) pe_int (fun _ _ => rfl)))
    (pss_cons (ps_if (PW.pt (pw_or (pt_cmpR op_lt (pv 2) pe_int (nomark _)) (pw_or1 (pt_cmpR op_gt (pv 2) (pe_callB call_len_seq (by rfl) B.len (by decide +kernel) (pa_cons (pv 4) pa_nil)) (nomark _))))) (pss_one (ps_raise rfl tk (pmk_own PySem.F.excBase_ValueError X_NoNumber.x X_NoNumber.g X_NoNumber.k (raises_own X_NoNumber.b X_NoNumber.t) (by rfl)))) pss_nil)
    (pss_one (ps_ret (pe_callB cr_sortedJ (by rfl) B.sorted (by decide +kernel) (pa_cons (pe_op op_cat (pv 3) (pe_slice sl_list (pv 4) po_none (po_some (pv 2)))) pa_nil))))))), ?_⟩
    refine ⟨_, rfl, _, rfl, m, N, rfl, kM, kN, fun n e hn h0 h1 b nb => ?_⟩
    subst e
    obtain ⟨hset, hal, hlen, _⟩ := bottom_facts h0 h1
    have s1 : Same H (upd H b (.lst ((bottomL n N).map V.int))) := same_new nb
    have hb : (upd H b (.lst ((bottomL n N).map V.int))) b = some (.lst ((bottomL n N).map V.int)) := upd_same
    have kP := kP n rfl hn h0 h1
    have kQ := fun (j : Nat) => kQ n j rfl hn h0 h1
    simp only [Int.toNat_natCast] at kQ
    rw [show ((n : Int)).toNat = n from rfl]
    generalize bottomL n N = B at *
    generalize upd H b (.lst (B.map V.int)) = H1 at *
    have hl := hset.len
    refine ⟨_, rfl, _, rfl, n, b, B, rfl, by omega, by omega, SqL.of hb, fun H2 t s al wa ts hp => ?_⟩
    refine ⟨t, _, 2, _, rfl, rfl, SqT.of hp.tup, atI_nat (j := 2) rfl, ?_⟩
    have s2 := s1.trans hp.same
    have hb2 := hp.same _ _ hb
    have hw := hp.wt
    clear hp
    have bad : (pl < 0 ∨ ((fin n B).wt.length : Int) < pl) → E _ none H2 := fun z => kP z H2 s2
    refine ⟨_, rfl, pl, 0, rfl, rfl, _, rfl, ite2 (fun h2 => ?_) (fun h2 => ?_)⟩
    · exact iteT (bad (.inl (of_decide_eq_true h2)))
    have h2' : ¬ pl < 0 := fun z => h2 (decide_eq_true z)
    refine ⟨_, rfl, _, rfl, wa, _, rfl, .inl (SqL.of hw), pl, _, rfl, rfl, _, rfl, ite2 (fun h3 => ?_) (fun h3 => ?_)⟩
    · have h3 := of_decide_eq_true h3
      rw [List.length_map] at h3
      exact bad (.inr h3)
    have h3' : ¬ _ := fun z => h3 (decide_eq_true z)
    rw [List.length_map] at h3'
    obtain ⟨j, rfl⟩ : ∃ j : Nat, pl = (j : Int) := ⟨pl.toNat, by omega⟩
    refine ⟨_, rfl, _, rfl, _, rfl, (j : Int), rfl, wa, _, rfl, SqL.of hw, fun c nc => ?_⟩
    rw [cut_take, ← List.map_take]
    have s3 : Same H2 (upd H2 c (.lst (((fin n B).wt.take j).map V.int))) := same_new nc
    have hc : (upd H2 c (.lst (((fin n B).wt.take j).map V.int))) c = some (.lst (((fin n B).wt.take j).map V.int)) := upd_same
    generalize upd H2 c (.lst (((fin n B).wt.take j).map V.int)) = H3 at *
    have lw := (fin_wt_set (n := n) B).len
    refine ⟨b, c, _, _, rfl, rfl, s3 _ _ hb2, hc, sz_le (by rw [List.length_map, List.length_map, List.length_take]; omega), fun d nd => ?_⟩
    rw [← List.map_append]
    refine ⟨d, _, rfl, SqL.of upd_same, fun p np => ?_⟩
    refine kQ j rfl (by omega) _ p (((s2.trans s3).trans (same_new nd)).trans (same_new np)) (((s2.trans s3).trans (same_new (o := .lst ((B ++ (fin n B).wt.take j).map V.int)) nd)).free np) ?_
    rw [upd_same, bot_cset hset hal]
    rfl
/-! #### middle -/
/-- the sets of the middle size, chain by chain -/
def midL (n : Nat) (N : Int) : List Int := cset n (bottomL n N) (n / 2 - (bottomL n N).length)
def middleL (n : Nat) : List (List Int) := (irange (ch n (n / 2))).map (midL n)
theorem bot_mid {n : Nat} {b : List Int} (h : IsSet n b) (ha : (fin n b).aln = []) {j : Nat} : isort (b ++ (fin n b).wt.take j) = cset n b j := by
  have ws := fin_wt_set (n := n) b
  have lw : loo n b = (fin n b).wt := by
    show (fin n b).aln ++ (fin n b).wt = _
    rw [ha]
    rfl
  have nd : (b ++ (fin n b).wt.take j).Nodup := by
    refine List.nodup_append.mpr ⟨up_nodup h.up, up_nodup (up_take ws.up j), fun x hx y hy e => ?_⟩
    subst e
    exact (fin_wt_iff.mp (List.mem_of_mem_take hy)).2.1 hx
  refine up_ext (isort_up nd) (cset_set n b j).up fun x => ?_
  rw [isort_mem, List.mem_append, cset_mem, lw]
  constructor
  · rintro (z | z)
    · exact ⟨⟨h.lo x z, h.hi x z⟩, .inr ⟨fun w => (fin_wt_iff.mp w).2.1 z, z⟩⟩
    · have w := List.mem_of_mem_take z
      exact ⟨⟨ws.lo x w, ws.hi x w⟩, .inl ⟨w, z⟩⟩
  · rintro ⟨_, ⟨_, z⟩ | ⟨_, z⟩⟩
    · exact .inr z
    · exact .inl z
/-- a new list at p of new lists at as -/
structure NewL (H H' : Hp) (p : Addr) (as : List Addr) (rows : List (List Int)) : Prop where
  same : Same H H'
  np : H p = none
  nas : ∀ x ∈ as, H x = none
  pas : p ∉ as
  lst : H' p = some (.lst (as.map V.ref))
  rws : Rows H' as rows
def spMiddle (C : Addr) : Sp := fun vs H Q E => ∃ m : Int, vs = [.int m] ∧ ((m < 0 ∨ 8 < m) → E (.ref C) none H) ∧ (∀ n : Nat, m = (n : Int) → n ≤ 8 → ∀ H' p as, NewL H H' p as (middleL n) → Q (.ref p) H')
theorem ok_middle {C_NoMany : Addr} {C_NoNumber : Addr} (A : At K mg "middle" s_middle) (B : Bt mg tM) (D_asked_many : Def P w K mg base (L2.CX P w) 1 "asked_many" ["many", "most"] (spMany C_NoMany)) (D_how_many : Def P w K mg base (L2.CX P w) 2 "how_many" ["many"] (spHow C_NoMany)) (D_bottom_of : Def P w K mg base (L2.CX P w) 4 "bottom_of" ["many", "number"] (spBotOf C_NoMany C_NoNumber)) (D_parted : Def P w K mg base CX0 1 "parted" ["many", "members"] (spParted K)) :
    Def P w K mg base (L2.CX P w) 5 "middle" ["many"] (spMiddle C_NoMany) := by
  obtain ⟨f, fd, F, gm⟩ := A
  obtain ⟨f_asked_many, fd_asked_many, G_asked_many, g_asked_many, k_asked_many, b_asked_many⟩ := D_asked_many.ex
  obtain ⟨f_how_many, fd_how_many, G_how_many, g_how_many, k_how_many, b_how_many⟩ := D_how_many.ex
  obtain ⟨f_bottom_of, fd_bottom_of, G_bottom_of, g_bottom_of, k_bottom_of, b_bottom_of⟩ := D_bottom_of.ex
  obtain ⟨f_parted, fd_parted, G_parted, g_parted, k_parted, b_parted⟩ := D_parted.ex
  refine ⟨⟨f, fd, F.okX sc_middle (fun vs H Q E h => ?_) (fun cdv A outer s H vs Q E hr h => ?_), gm, F.kp, F.binds fun _ _ _ _ _ _ us hl => match us, hl with | [_], _ => rfl⟩⟩
  · obtain ⟨m, rfl, _⟩ := h
    rfl
  · obtain ⟨m, rfl, kE, kQ⟩ := h
    have tk := takes_of (X := cxOf (L2.CX P w) P w K mg base ["many", "found", "number", "bottom", "waiting"] "middle" (defScope s_middle) f cdv A outer s H E) (E := E) rfl rfl rfl rfl
    refine ⟨_, (pss_cons (ps_expr (pe_call G_asked_many (hr.mono (by decide)) (by rfl) g_asked_many k_asked_many b_asked_many .nil (passes_call tk (fun _ _ _ _ h => h)) (pa_cons (pv 0) (pa_cons pe_int pa_nil))))
    (pss_cons (ps_set (i := 1) sc_middle.nd rfl (.inl rfl) (pe_lst pa_nil))
    (pss_cons (ps_for (passes_of rfl) rfl (pi_range1 (by rfl) B.range (pa_cons (pe_call G_how_many (hr.mono (by decide)) (by rfl) g_how_many k_how_many b_how_many .nil (passes_call tk (fun _ _ _ _ h => h)) (pa_cons (pv 0) pa_nil)) pa_nil)) (pg_name (i := 2) sc_middle.nd rfl (.inl rfl)) (pss_cons (ps_set (i := 3) sc_middle.nd rfl (.inl rfl) (pe_call G_bottom_of (hr.mono (by decide)) (by rfl) g_bottom_of k_bottom_of b_bottom_of .nil (passes_call tk (fun _ _ _ _ h => h)) (pa_cons (pv 0) (pa_cons (pv 2) pa_nil))))
    (pss_cons (ps_set (i := 4) sc_middle.nd rfl (.inl rfl) (pe_ix ix_tup (pe_call G_parted (hr.mono (by decide)) (by rfl) g_parted k_parted b_parted .nil pass0 (pa_cons (pv 0) (pa_cons (pv 3) pa_nil))) pe_int (fun _ _ => rfl)))
    (pss_one (ps_expr (pe_bm PySem.F.plainAttrs_list PySem.F.slot_list_append PySem.F.type_list_append mt_append (pv 1) (pa_cons (pe_callB cr_sortedJ (by rfl) B.sorted (by decide +kernel) (pa_cons (pe_op op_cat (pv 3) (pe_slice sl_list (pv 4) po_none (po_some (pe_op op_sub (pe_op op_fdiv (pv 0) pe_int) (pe_callB call_len_seq (by rfl) B.len (by decide +kernel) (pa_cons (pv 3) pa_nil)))))) pa_nil)) pa_nil)))))))
    (pss_one (ps_ret (pv 1)))))), ?_⟩
    refine ⟨_, rfl, m, 8, rfl, kE, fun hm => ?_⟩
    obtain ⟨n, rfl⟩ : ∃ n : Nat, m = (n : Int) := ⟨m.toNat, by omega⟩
    have hn : n ≤ 8 := by omega
    have kQ := kQ n rfl hn
    have en : ((n : Int)).toNat = n := rfl
    have e2 : ((n : Int) / 2) = ((n / 2 : Nat) : Int) := by omega
    have cb := ch_le n (n / 2)
    have pw : 2 ^ n ≤ 2 ^ 8 := Nat.pow_le_pow_right (by decide) hn
    have pw' : 2 ^ n ≤ 256 := pw
    refine ⟨sz_le (by show 0 ≤ _; omega), fun p np => ?_⟩
    have s1 : Same H (upd H p (.lst [])) := same_new np
    refine ⟨_, rfl, (n : Int), rfl, fun z => absurd z (by omega), fun _ => ?_⟩
    rw [how_mid]
    refine ⟨_, rfl, by omega, by omega, ?_⟩
    refine for_range (lo := 0) (n := ((ch n (n / 2) : Int)).toNat) (fun i σ H' => Same H H' ∧ ∃ (as : List Addr) (y z w : Option V), σ = [some (.int (n : Int)), some (.ref p), y, z, w] ∧ H' p = some (.lst (as.map V.ref)) ∧ (∀ x ∈ as, H x = none) ∧ p ∉ as ∧ Rows H' as ((irange i).map (midL n)))
      ⟨s1, [], none, none, none, rfl, upd_same, (fun _ h => nomatch h), by simp, .nil⟩ ?_ ?_
    · rintro i σ H1 hi ⟨s1, as, y, z, w, rfl, hp, nas, pas, hr⟩
      have hi' : i < ch n (n / 2) := by omega
      have ei : ((0 : Int) + (i : Int)) = (i : Int) := Int.zero_add _
      have h0 : (0 : Int) ≤ (i : Int) := by omega
      have h1 : (i : Int) < (ch n (n / 2) : Int) := by omega
      obtain ⟨b1, b2, b3, b4⟩ := bottom_facts h0 h1
      have lr := hr.len
      rw [List.length_map, irange_len] at lr
      refine ⟨_, rfl, _, rfl, (n : Int), (i : Int), by show [V.int (n : Int), V.int ((0 : Int) + (i : Int))] = _; rw [ei], NGuard.of (by omega) h0 h1 fun b nb => ?_⟩
      rw [en]
      have s2 : Same H1 (upd H1 b (.lst ((bottomL n (i : Int)).map V.int))) := same_new nb
      have hb : (upd H1 b (.lst ((bottomL n (i : Int)).map V.int))) b = some (.lst ((bottomL n (i : Int)).map V.int)) := upd_same
      have em : midL n (i : Int) = cset n (bottomL n (i : Int)) (n / 2 - (bottomL n (i : Int)).length) := rfl
      have bl := b1.len
      have bsz : (bottomL n (i : Int)).length ≤ n / 2 := by
        rw [b3]
        exact (sz_spec h1).1
      generalize bottomL n (i : Int) = B at *
      generalize upd H1 b (.lst (B.map V.int)) = H2 at *
      refine ⟨_, rfl, _, rfl, n, b, B, rfl, by omega, by omega, SqL.of hb, fun H3 t s al wa ts hP => ?_⟩
      refine ⟨t, _, 2, _, rfl, rfl, SqT.of hP.tup, atI_nat (j := 2) rfl, ?_⟩
      have s3 := (s1.trans s2).trans hP.same
      have hb3 := hP.same _ _ hb
      have hp3 := hP.same _ _ (s2 _ _ hp)
      have hr3 := (hr.same s2).same hP.same
      have hw := hP.wt
      clear hP
      have lw := (fin_wt_set (n := n) B).len
      refine ⟨_, rfl, .inl ⟨rfl, _, SqL.of hp3⟩, _, rfl, _, rfl, _, rfl, _, _, rfl, rfl, ⟨by decide, by decide⟩, _, rfl, b, _, rfl, .inl (SqL.of hb3), _, _, rfl, rfl, ((n / 2 - B.length : Nat) : Int), ?_, wa, _, rfl, SqL.of hw, fun c nc => ?_⟩
      · show V.int ((n : Int) / 2 - ((B.map V.int).length : Int)) = _
        rw [List.length_map, e2]
        congr 1
        omega
      rw [cut_take, ← List.map_take]
      have s4 : Same H3 (upd H3 c (.lst (((fin n B).wt.take (n / 2 - B.length)).map V.int))) := same_new nc
      have hc : (upd H3 c (.lst (((fin n B).wt.take (n / 2 - B.length)).map V.int))) c = some (.lst (((fin n B).wt.take (n / 2 - B.length)).map V.int)) := upd_same
      generalize upd H3 c (.lst (((fin n B).wt.take (n / 2 - B.length)).map V.int)) = H4 at *
      refine ⟨b, c, _, _, rfl, rfl, s4 _ _ hb3, hc, sz_le (by rw [List.length_map, List.length_map, List.length_take]; omega), fun d nd => ?_⟩
      rw [← List.map_append]
      refine ⟨d, _, rfl, SqL.of upd_same, fun o no => ?_⟩
      rw [bot_mid b1 b2, ← em]
      have s5 := (s4.trans (same_new (o := .lst ((B ++ (fin n B).wt.take (n / 2 - B.length)).map V.int)) nd)).trans (same_new (o := .lst ((midL n (i : Int)).map V.int)) no)
      have no3 : H3 o = none := (s4.trans (same_new (o := .lst ((B ++ (fin n B).wt.take (n / 2 - B.length)).map V.int)) nd)).free no
      have ho : (upd (upd H4 d (.lst ((B ++ (fin n B).wt.take (n / 2 - B.length)).map V.int))) o (.lst ((midL n (i : Int)).map V.int))) o = some (.lst ((midL n (i : Int)).map V.int)) := upd_same
      generalize upd (upd H4 d (.lst ((B ++ (fin n B).wt.take (n / 2 - B.length)).map V.int))) o (.lst ((midL n (i : Int)).map V.int)) = H6 at *
      have hp6 := s5 _ _ hp3
      have po : p ≠ o := ne_of_none hp3 no3
      refine ⟨p, _, _, rfl, rfl, hp6, sz_lt (by rw [List.length_map]; omega), ?_⟩
      refine ⟨same_mut (s3.trans s5) np, as ++ [o], _, _, _, rfl, ?_, ?_, ?_, ?_⟩
      · rw [upd_same, List.map_append]
        rfl
      · intro x hx
        rcases List.mem_append.mp hx with hx | hx
        · exact nas x hx
        · rw [List.mem_singleton.mp hx]
          exact s3.free no3
      · intro hx
        rcases List.mem_append.mp hx with hx | hx
        · exact pas hx
        · exact po (List.mem_singleton.mp hx)
      · rw [irange_succ, List.map_append]
        refine Rows.snoc ((hr3.same s5).upd pas) ?_
        rw [upd_ne po.symm]
        exact ho
    · rintro σ H1 ⟨s1, as, y, z, w, rfl, hp, nas, pas, hr⟩
      exact ⟨_, rfl, kQ H1 p as ⟨s1, np, nas, pas, hp, hr⟩⟩
/-! #### _law_cell_at -/
def cellI (ns : List Int) (k : Nat) : Int := ns.getD k 0
def spCellAt (K : PySem.W.Frag) : Sp := fun vs H Q _ => ∃ (a : Addr) (ns : List Int) (k : Nat), vs = [.ref a, .int (k : Int)] ∧ SqL K H a (ns.map V.int) ∧ Q (.int (cellI ns k)) H
theorem ok__law_cell_at (A : At K mg "_law_cell_at" s__law_cell_at) (B : Bt mg tM) :
    Def P w K mg base CX0 1 "_law_cell_at" ["script", "k"] (spCellAt K) := by
  obtain ⟨f, fd, F, gm⟩ := A
  refine ⟨⟨f, fd, F.ok sc__law_cell_at (fun vs H Q E h => ?_) (fun cdv A outer s H vs Q E hr h => ?_), gm, F.kp, F.binds fun _ _ _ _ _ _ us hl => match us, hl with | [_, _], _ => rfl⟩⟩
  · obtain ⟨a, ns, k, rfl, _⟩ := h
    rfl
  · obtain ⟨a, ns, k, rfl, hS, q⟩ := h
    refine ⟨_, (pss_cons (ps_if (pt_cmpR op_lt (pv 1) (pe_callB call_len_seq (by rfl) B.len (by decide +kernel) (pa_cons (pv 0) pa_nil)) (nomark _)) (pss_one (ps_ret (pe_ix ix_list (pv 0) (pv 1) (fun _ _ => rfl)))) pss_nil)
    (pss_one (ps_ret pe_int))), ?_⟩
    refine ⟨_, rfl, _, rfl, a, _, rfl, .inl hS, _, _, rfl, rfl, _, rfl, ite2 (fun h1 => ?_) (fun h1 => ?_)⟩
    · have h1 := of_decide_eq_true h1
      rw [List.length_map] at h1
      have hk : k < ns.length := by omega
      have e : ns[k]? = some (cellI ns k) := by
        unfold cellI
        rw [List.getD_eq_getElem?_getD, List.getElem?_eq_getElem hk]
        rfl
      exact ⟨_, rfl, _, rfl, a, _, _, _, rfl, rfl, hS, atI_int rfl e, q⟩
    · have h1 : ¬ _ := fun z => h1 (decide_eq_true z)
      rw [List.length_map] at h1
      have e : cellI ns k = 0 := by
        unfold cellI
        rw [List.getD_eq_getElem?_getD, List.getElem?_eq_none (by omega)]
        rfl
      rw [e] at q
      exact q
/-! #### _law_word_of -/
theorem ok__law_word_of {C_ChainError : Addr} {C_NoMany : Addr} {C_NoSet : Addr} {C_NoNumber : Addr} {C_NoNote : Addr} (A : At K mg "_law_word_of" s__law_word_of) (B : Bt mg tM) (Z_NoMany : XC K mg "NoMany" C_NoMany) (Z_NoSet : XC K mg "NoSet" C_NoSet) (Z_NoNumber : XC K mg "NoNumber" C_NoNumber) (Z_NoNote : XC K mg "NoNote" C_NoNote) :
    DefP P w K mg base 1 "_law_word_of" ["e"] (spWord K C_ChainError C_NoMany C_NoSet C_NoNumber C_NoNote) := by
  obtain ⟨f, fd, F, gm⟩ := A
  refine ⟨⟨f, fd, fnP F sc__law_word_of (fun a c d vs H Q E h => ?_) (fun cdv A outer s H vs Q p c d hr zc fl h => ?_), gm, F.kp, F.binds fun _ _ _ _ _ _ us hl => match us, hl with | [_], _ => rfl⟩⟩
  · obtain ⟨rfl, _⟩ := h
    rfl
  · obtain ⟨rfl, D, b1, b2, b3, b4, z, rfl, rfl, Y, hot, q⟩ := h
    refine ⟨_, (pss_cons (ps_set (i := 1) sc__law_word_of.nd rfl (.inl rfl) (pe_lst (pa_cons (pe_callB (call_isP Y.e (List.mem_singleton.mpr rfl) zc fl) (by rfl) B.isinstance (by decide +kernel) (pa_cons (pv 0) (pa_cons (pe_glob (v := .ref C_NoMany) rfl Z_NoMany.g rfl) pa_nil))) (pa_cons (pe_callB (call_isP Y.e (List.mem_singleton.mpr rfl) zc fl) (by rfl) B.isinstance (by decide +kernel) (pa_cons (pv 0) (pa_cons (pe_glob (v := .ref C_NoSet) rfl Z_NoSet.g rfl) pa_nil))) (pa_cons (pe_callB (call_isP Y.e (List.mem_singleton.mpr rfl) zc fl) (by rfl) B.isinstance (by decide +kernel) (pa_cons (pv 0) (pa_cons (pe_glob (v := .ref C_NoNumber) rfl Z_NoNumber.g rfl) pa_nil))) (pa_cons (pe_callB (call_isP Y.e (List.mem_singleton.mpr rfl) zc fl) (by rfl) B.isinstance (by decide +kernel) (pa_cons (pv 0) (pa_cons (pe_glob (v := .ref C_NoNote) rfl Z_NoNote.g rfl) pa_nil))) pa_nil))))))
    (pss_cons (ps_if (PW.pt (pw_or (pt_cmpR op_ne (pe_bm PySem.F.plainAttrs_list PySem.F.slot_list_count PySem.F.type_list_count (mt_countD (uH hr)) (pv 1) (pa_cons pe_bl pa_nil)) pe_int (nomark _)) (pw_or1 (pt_not (pt_val (pe_callB (call_isP Y.e (List.mem_singleton.mpr rfl) zc fl) (by rfl) B.isinstance (by decide +kernel) (pa_cons (pv 0) (pa_cons (pe_bltn (v := .ty "ValueError") (by rfl) B.ValueError (by decide +kernel) rfl) pa_nil)))))))) (pss_one (ps_ret pe_str)) pss_nil)
    (pss_one (ps_ret (pe_ix ix_list (pe_lst (pa_cons pe_str (pa_cons pe_str (pa_cons pe_str (pa_cons pe_str pa_nil))))) (pe_bm PySem.F.plainAttrs_list PySem.F.slot_list_index PySem.F.type_list_index mt_index (pv 1) (pa_cons pe_bl pa_nil)) (fun _ _ => rfl)))))), ?_⟩
    have k1 := kit_own Y.self Z_NoMany.d Z_NoMany.t Y.s1
    have k2 := kit_own Y.self Z_NoSet.d Z_NoSet.t Y.s2
    have k3 := kit_own Y.self Z_NoNumber.d Z_NoNumber.t Y.s3
    have k4 := kit_own Y.self Z_NoNote.d Z_NoNote.t Y.s4
    have kv := kit_val Y.v
    refine ⟨_, rfl, _, _, b1, rfl, (fun _ => own_val), k1, _, rfl, _, _, b2, rfl, (fun _ => own_val), k2, _, rfl, _, _, b3, rfl, (fun _ => own_val), k3, _, rfl, _, _, b4, rfl, (fun _ => own_val), k4, sz_le (by show 4 ≤ _; omega), fun l nl => ?_⟩
    have s1 : Same H (upd H l (.lst [.bl b1, .bl b2, .bl b3, .bl b4])) := same_new nl
    have hl : (upd H l (.lst [.bl b1, .bl b2, .bl b3, .bl b4])) l = some (.lst [.bl b1, .bl b2, .bl b3, .bl b4]) := upd_same
    generalize upd H l (.lst [.bl b1, .bl b2, .bl b3, .bl b4]) = H1 at *
    rcases hot with ⟨rfl, rfl, rfl, rfl, rfl⟩ | ⟨rfl, rfl, rfl, rfl, rfl⟩ | ⟨rfl, rfl, rfl, rfl, rfl⟩ | ⟨rfl, rfl, rfl, rfl, rfl⟩
    · refine ⟨_, rfl, .inl ⟨rfl, _, SqL.of hl⟩, l, _, .bool true, [.bool true, .bool false, .bool false, .bool false], rfl, rfl, .lst (SqL.of hl) (.cons (.bl _) (.cons (.bl _) (.cons (.bl _) (.cons (.bl _) .nil)))), .bl _, by decide +kernel, by decide +kernel, rfl, _, rfl, ?_⟩
      refine iteF ?_
      refine ⟨_, rfl, _, _, true, rfl, (fun _ => ty_val), kv, true, rfl, iteF ?_⟩
      refine ⟨sz_le (by show 4 ≤ _; omega), fun m nm => ?_⟩
      have s2 := same_new (o := .lst [.str (Str.ofString "many"), .str (Str.ofString "set"), .str (Str.ofString "number"), .str (Str.ofString "note")]) nm
      refine ⟨_, rfl, .inl ⟨rfl, _, SqL.of (s2 _ _ hl)⟩, l, _, _, 0, _, rfl, rfl, SqL.of (s2 _ _ hl), rfl, rfl, rfl, rfl, (fun i y hi => absurd hi (by omega)), m, _, _, _, rfl, rfl, SqL.of upd_same, atI_nat (j := 0) rfl, q _ (s1.trans s2)⟩
    · refine ⟨_, rfl, .inl ⟨rfl, _, SqL.of hl⟩, l, _, .bool true, [.bool false, .bool true, .bool false, .bool false], rfl, rfl, .lst (SqL.of hl) (.cons (.bl _) (.cons (.bl _) (.cons (.bl _) (.cons (.bl _) .nil)))), .bl _, by decide +kernel, by decide +kernel, rfl, _, rfl, ?_⟩
      refine iteF ?_
      refine ⟨_, rfl, _, _, true, rfl, (fun _ => ty_val), kv, true, rfl, iteF ?_⟩
      refine ⟨sz_le (by show 4 ≤ _; omega), fun m nm => ?_⟩
      have s2 := same_new (o := .lst [.str (Str.ofString "many"), .str (Str.ofString "set"), .str (Str.ofString "number"), .str (Str.ofString "note")]) nm
      refine ⟨_, rfl, .inl ⟨rfl, _, SqL.of (s2 _ _ hl)⟩, l, _, _, 1, _, rfl, rfl, SqL.of (s2 _ _ hl), rfl, rfl, rfl, rfl, (fun i y hi hy => ?_), m, _, _, _, rfl, rfl, SqL.of upd_same, atI_nat (j := 1) rfl, q _ (s1.trans s2)⟩
      match i, hi, hy with
      | 0, _, rfl => rfl
    · refine ⟨_, rfl, .inl ⟨rfl, _, SqL.of hl⟩, l, _, .bool true, [.bool false, .bool false, .bool true, .bool false], rfl, rfl, .lst (SqL.of hl) (.cons (.bl _) (.cons (.bl _) (.cons (.bl _) (.cons (.bl _) .nil)))), .bl _, by decide +kernel, by decide +kernel, rfl, _, rfl, ?_⟩
      refine iteF ?_
      refine ⟨_, rfl, _, _, true, rfl, (fun _ => ty_val), kv, true, rfl, iteF ?_⟩
      refine ⟨sz_le (by show 4 ≤ _; omega), fun m nm => ?_⟩
      have s2 := same_new (o := .lst [.str (Str.ofString "many"), .str (Str.ofString "set"), .str (Str.ofString "number"), .str (Str.ofString "note")]) nm
      refine ⟨_, rfl, .inl ⟨rfl, _, SqL.of (s2 _ _ hl)⟩, l, _, _, 2, _, rfl, rfl, SqL.of (s2 _ _ hl), rfl, rfl, rfl, rfl, (fun i y hi hy => ?_), m, _, _, _, rfl, rfl, SqL.of upd_same, atI_nat (j := 2) rfl, q _ (s1.trans s2)⟩
      match i, hi, hy with
      | 0, _, rfl => rfl
      | 1, _, rfl => rfl
    · refine ⟨_, rfl, .inl ⟨rfl, _, SqL.of hl⟩, l, _, .bool true, [.bool false, .bool false, .bool false, .bool true], rfl, rfl, .lst (SqL.of hl) (.cons (.bl _) (.cons (.bl _) (.cons (.bl _) (.cons (.bl _) .nil)))), .bl _, by decide +kernel, by decide +kernel, rfl, _, rfl, ?_⟩
      refine iteF ?_
      refine ⟨_, rfl, _, _, true, rfl, (fun _ => ty_val), kv, true, rfl, iteF ?_⟩
      refine ⟨sz_le (by show 4 ≤ _; omega), fun m nm => ?_⟩
      have s2 := same_new (o := .lst [.str (Str.ofString "many"), .str (Str.ofString "set"), .str (Str.ofString "number"), .str (Str.ofString "note")]) nm
      refine ⟨_, rfl, .inl ⟨rfl, _, SqL.of (s2 _ _ hl)⟩, l, _, _, 3, _, rfl, rfl, SqL.of (s2 _ _ hl), rfl, rfl, rfl, rfl, (fun i y hi hy => ?_), m, _, _, _, rfl, rfl, SqL.of upd_same, atI_nat (j := 3) rfl, q _ (s1.trans s2)⟩
      match i, hi, hy with
      | 0, _, rfl => rfl
      | 1, _, rfl => rfl
      | 2, _, rfl => rfl
/-! #### _law_picks -/
def spLPicks : Sp := fun vs H Q _ => ∃ n k : Nat, vs = [.int (n : Int), .int (k : Int)] ∧ n ≤ 60 ∧ k ≤ n ∧ ∀ H', Same H H' → Q (.int (ch n k : Int)) H'
theorem ok__law_picks (A : At K mg "_law_picks" s__law_picks) (B : Bt mg tM) :
    Def P w K mg base CX0 1 "_law_picks" ["total", "some"] spLPicks := by
  obtain ⟨f, fd, F, gm⟩ := A
  refine ⟨⟨f, fd, F.ok sc__law_picks (fun vs H Q E h => ?_) (fun cdv A outer s H vs Q E hr h => ?_), gm, F.kp, F.binds fun _ _ _ _ _ _ us hl => match us, hl with | [_, _], _ => rfl⟩⟩
  · obtain ⟨n, k, rfl, _⟩ := h
    rfl
  · obtain ⟨n, k, rfl, hn, hk, q⟩ := h
    refine ⟨_, (pss_cons (ps_set (i := 2) sc__law_picks.nd rfl (.inr rfl) (pe_lst (pa_cons pe_int pa_nil)))
    (pss_cons (ps_for PassesOwn.never rfl (pi_range1 (by rfl) B.range (pa_cons (pv 0) pa_nil)) (pg_name (i := 3) sc__law_picks.nd rfl (.inl rfl)) (pss_one (ps_set (i := 2) sc__law_picks.nd rfl (.inr rfl) (pe_op op_cat (pe_op op_cat (pe_lst (pa_cons pe_int pa_nil)) (pe_lc (own := [("j", 4)]) (g := gName 4) (by rfl) sc__law_picks.nd (pi_range1 (by rfl) B.range (pa_cons (pv 3) pa_nil)) (blkOk_by (N := ["total", "some", "row", "k", "j"]) (sc := defScope s__law_picks) (by decide +kernel)) (fun _ _ _ _ _ => (pg_name (i := 4) sc__law_picks.nd rfl (.inl rfl))) (fun _ _ _ _ _ => pts_nil) (fun _ _ _ _ _ => (pe_op op_add (pe_ix (ix_listK K) (pv 2) (pv 4) (fun _ _ => rfl)) (pe_ix (ix_listK K) (pv 2) (pe_op op_add (pv 4) pe_int) (fun _ _ => rfl)))))) (pe_lst (pa_cons pe_int pa_nil))))))
    (pss_one (ps_ret (pe_ix ix_list (pv 2) (pv 1) (fun _ _ => rfl)))))), ?_⟩
    refine ⟨sz_le (by show 1 ≤ _; omega), fun a0 n0 => ?_⟩
    refine ⟨_, rfl, (n : Int), rfl, by omega, by omega, ?_⟩
    refine for_range (lo := 0) (n := ((n : Int)).toNat) (fun i σ H' => Same H H' ∧ ∃ a y, H' a = some (.lst ((prow i).map V.int)) ∧ σ = [some (.int (n : Int)), some (.int (k : Int)), some (.ref a), y, none]) ⟨same_new n0, a0, none, upd_same, rfl⟩ ?_ ?_
    · rintro i σ H1 hi ⟨s1, a, y, ea, rfl⟩
      have hi' : i < n := by omega
      refine ⟨sz_le (by show 1 ≤ _; omega), fun l nl => ?_⟩
      have s2 := s1.trans (same_new (o := .lst [.int 1]) nl)
      have al : a ≠ l := ne_of_none ea nl
      refine ⟨_, rfl, (0 : Int) + (i : Int), rfl, by omega, by omega, fun D nD => ?_⟩
      have aD : a ≠ D := ne_of_none (by rw [upd_ne al]; exact ea) nD
      have lD : l ≠ D := ne_of_none upd_same nD
      refine lc_range (lo := 0) (n := ((0 : Int) + (i : Int)).toNat) (fun j H' => H' = upd (upd H1 l (.lst [.int 1])) D (.lst (((List.range j).map fun j => (ch i j : Int) + (ch i (j + 1) : Int)).map V.int))) rfl ?_ ?_
      · rintro j H' hj rfl
        have hj' : j < i := by omega
        have ea' : (upd (upd H1 l (.lst [.int 1])) D (.lst (((List.range j).map fun j => (ch i j : Int) + (ch i (j + 1) : Int)).map V.int))) a = some (.lst ((prow i).map V.int)) := by
          rw [upd_ne aD, upd_ne al]
          exact ea
        refine ⟨rfl, ?_⟩
        refine tyes ?_
        refine iteT ?_
        refine ⟨_, rfl, _, rfl, a, _, _, _, rfl, rfl, SqL.of ea', atI_int (i := j) (by omega) (prow_get (by omega)), _, rfl, _, rfl, _, _, rfl, rfl, a, _, _, _, rfl, rfl, SqL.of ea', atI_int (i := j + 1) (by omega) (prow_get (by omega)), _, _, rfl, rfl, _, upd_same, sz_lt ?_, ?_⟩
        · rw [List.length_map, List.length_map, List.length_range]
          omega
        · rw [upd_upd, List.range_succ, List.map_append, List.map_append]
          rfl
      · rintro H' rfl
        have ei : ((0 : Int) + (i : Int)).toNat = i := by omega
        rw [ei]
        refine ⟨l, D, _, _, rfl, rfl, by rw [upd_ne lD, upd_same], upd_same, sz_le (by simp; omega), fun p np => ?_⟩
        have pD : D ≠ p := ne_of_none upd_same np
        refine ⟨sz_le (by show 1 ≤ _; omega), fun l2 nl2 => ?_⟩
        have pl2 : p ≠ l2 := ne_of_none upd_same nl2
        refine ⟨p, l2, _, _, rfl, rfl, by rw [upd_ne pl2, upd_same], upd_same, sz_le (by simp; omega), fun p2 np2 => ?_⟩
        refine ⟨?_, p2, _, ?_, rfl⟩
        · exact (((s2.trans (same_new nD)).trans (same_new np)).trans (same_new nl2)).trans (same_new np2)
        · rw [upd_same, prow_next, List.map_append, List.map_append]
          rfl
    · rintro σ H1 ⟨s1, a, y, ea, rfl⟩
      refine ⟨_, rfl, _, rfl, a, _, _, _, rfl, rfl, SqL.of ea, atI_int (i := k) rfl (prow_get (by omega)), ?_⟩
      exact q _ s1
/-! #### _law_tried -/
theorem NGuard.m {CM CN : Addr} {m N : Int} {E : XK} {H : Hp} {good : Prop} (h : m < 0 ∨ 40 < m) (e : E (.ref CM) none H) : NGuard CM CN m N E H good :=
  ⟨fun _ => e, fun n e _ => by omega, fun n e _ => by omega⟩
theorem NGuard.n {CM CN : Addr} {n : Nat} {N : Int} {E : XK} {H : Hp} {good : Prop} (hn : n ≤ 40) (h : N < 0 ∨ (ch n (n / 2) : Int) ≤ N) (e : E (.ref CN) none H) : NGuard CM CN n N E H good :=
  ⟨fun z => absurd z (by omega), fun _ _ _ _ => e, fun n' e' _ h0 h1 => by have e2 : n = n' := (by omega); subst e2; omega⟩
theorem SGuard.m {CM CN : Addr} {m N pl : Int} {E : XK} {H : Hp} {good : Prop} (h : m < 0 ∨ 40 < m) (e : E (.ref CM) none H) : SGuard CM CN m N pl E H good :=
  ⟨fun _ => e, fun n e _ => by omega, fun n e _ => by omega, fun n j e _ => by omega⟩
theorem SGuard.n {CM CN : Addr} {n : Nat} {N pl : Int} {E : XK} {H : Hp} {good : Prop} (hn : n ≤ 40) (h : N < 0 ∨ (ch n (n / 2) : Int) ≤ N) (e : E (.ref CN) none H) : SGuard CM CN n N pl E H good :=
  ⟨fun z => absurd z (by omega), fun _ _ _ _ => e, fun n' e' _ h0 h1 => by have e2 : n = n' := (by omega); subst e2; omega, fun n' j e' _ h0 h1 => by have e2 : n = n' := (by omega); subst e2; omega⟩
theorem SGuard.p {CM CN : Addr} {n : Nat} {N pl : Int} {E : XK} {H : Hp} {good : Prop} (hn : n ≤ 40) (h0 : 0 ≤ N) (h1 : N < (ch n (n / 2) : Int)) (h : pl < 0 ∨ ((fin n (bottomL n N)).wt.length : Int) < pl) (e : ∀ H', Same H H' → E (.ref CN) none H') : SGuard CM CN n N pl E H good :=
  ⟨fun z => absurd z (by omega), fun n' e' _ z => by have e2 : n = n' := (by omega); subst e2; omega, fun _ _ _ _ _ _ => e, fun n' j e' _ _ _ ej lj => by have e2 : n = n' := (by omega); subst e2; omega⟩
/-- what is told of a try -/
def W17 (wh m N pl : Int) (z : Str) : Prop :=
  (wh = 3 ∧ (m < 0 ∨ 8 < m) ∧ z = Str.ofString "many") ∨ (wh = 3 ∧ (∃ n : Nat, m = (n : Int) ∧ n ≤ 8) ∧ z = Str.ofString "done") ∨
  ((wh = 0 ∨ wh = 1 ∨ wh = 2) ∧ (m < 0 ∨ 40 < m) ∧ z = Str.ofString "many") ∨ (wh = 0 ∧ (∃ n : Nat, m = (n : Int) ∧ n ≤ 40) ∧ z = Str.ofString "done") ∨
  ((wh = 1 ∨ wh = 2) ∧ (∃ n : Nat, m = (n : Int) ∧ n ≤ 40 ∧ (N < 0 ∨ (ch n (n / 2) : Int) ≤ N)) ∧ z = Str.ofString "number") ∨
  (wh = 1 ∧ (∃ n : Nat, m = (n : Int) ∧ n ≤ 40 ∧ 0 ≤ N ∧ N < (ch n (n / 2) : Int)) ∧ z = Str.ofString "done") ∨
  (wh = 2 ∧ (∃ n : Nat, m = (n : Int) ∧ n ≤ 40 ∧ 0 ≤ N ∧ N < (ch n (n / 2) : Int) ∧ (pl < 0 ∨ ((fin n (bottomL n N)).wt.length : Int) < pl)) ∧ z = Str.ofString "number") ∨
  (wh = 2 ∧ (∃ n j : Nat, m = (n : Int) ∧ n ≤ 40 ∧ 0 ≤ N ∧ N < (ch n (n / 2) : Int) ∧ pl = (j : Int) ∧ j ≤ (fin n (bottomL n N)).wt.length) ∧ z = Str.ofString "done")
def spTried : Sp := fun vs H Q _ => ∃ (wh m N pl : Int) (z : Str), vs = [.int wh, .int m, .int N, .int pl] ∧ W17 wh m N pl z ∧ ∀ H', Same H H' → Q (.str z) H'
theorem vi_eq {a b : Int} (h : a = b) : decide (V.int a = V.int b) = true := decide_eq_true (by rw [h])
theorem vi_ne {a b : Int} (h : ¬ a = b) : decide (V.int a = V.int b) = false := decide_eq_false fun z => h (V.int.inj z)
theorem ok__law_tried {C_NoMany : Addr} {C_ChainError : Addr} {C_NoSet : Addr} {C_NoNumber : Addr} {C_NoNote : Addr} (A : At K mg "_law_tried" s__law_tried) (B : Bt mg tM) (Z_ChainError : XC K mg "ChainError" C_ChainError) (Y_NoMany : XQ K C_NoMany C_ChainError C_NoMany C_NoSet C_NoNumber C_NoNote true false false false) (Y_NoNumber : XQ K C_NoNumber C_ChainError C_NoMany C_NoSet C_NoNumber C_NoNote false false true false) (D_how_many : Def P w K mg base (L2.CX P w) 2 "how_many" ["many"] (spHow C_NoMany)) (D__law_word_of : DefP P w K mg base 1 "_law_word_of" ["e"] (spWord K C_ChainError C_NoMany C_NoSet C_NoNumber C_NoNote)) (D_bottom_of : Def P w K mg base (L2.CX P w) 4 "bottom_of" ["many", "number"] (spBotOf C_NoMany C_NoNumber)) (D_set_of : Def P w K mg base (L2.CX P w) 5 "set_of" ["many", "number", "place"] (spSetOf C_NoMany C_NoNumber)) (D_middle : Def P w K mg base (L2.CX P w) 5 "middle" ["many"] (spMiddle C_NoMany)) :
    Def P w K mg base CX0 6 "_law_tried" ["which", "size", "number", "place"] spTried := by
  obtain ⟨f, fd, F, gm⟩ := A
  obtain ⟨f_how_many, fd_how_many, G_how_many, g_how_many, k_how_many, b_how_many⟩ := D_how_many.ex
  obtain ⟨f__law_word_of, fd__law_word_of, G__law_word_of, g__law_word_of, k__law_word_of, b__law_word_of⟩ := D__law_word_of.ex
  obtain ⟨f_bottom_of, fd_bottom_of, G_bottom_of, g_bottom_of, k_bottom_of, b_bottom_of⟩ := D_bottom_of.ex
  obtain ⟨f_set_of, fd_set_of, G_set_of, g_set_of, k_set_of, b_set_of⟩ := D_set_of.ex
  obtain ⟨f_middle, fd_middle, G_middle, g_middle, k_middle, b_middle⟩ := D_middle.ex
  refine ⟨⟨f, fd, F.ok sc__law_tried (fun vs H Q E h => ?_) (fun cdv A outer s H vs Q E hr h => ?_), gm, F.kp, F.binds fun _ _ _ _ _ _ us hl => match us, hl with | [_, _, _, _], _ => rfl⟩⟩
  · obtain ⟨wh, m, N, pl, z, rfl, _⟩ := h
    rfl
  · obtain ⟨wh, m, N, pl, z, rfl, hw, q⟩ := h
    refine ⟨_, (pss_cons (ps_try_as (i := 4) rfl rfl sc__law_tried.nd rfl rfl ⟨rfl, by decide, .inl Z_ChainError.g⟩ takes0 (fun W pn xe tk _ => (pss_one (ps_if (pt_cmpR op_eq (pv 0) pe_int (nomark _)) (pss_one (ps_expr (pe_callS G_how_many (hr.mono (by decide)) (by rfl) g_how_many k_how_many b_how_many (fun σ => passAt tk σ) (pa_cons (pv 1) pa_nil)))) (pss_one (ps_if (pt_cmpR op_eq (pv 0) pe_int (nomark _)) (pss_one (ps_expr (pe_callS G_bottom_of (hr.mono (by decide)) (by rfl) g_bottom_of k_bottom_of b_bottom_of (fun σ => passAt tk σ) (pa_cons (pv 1) (pa_cons (pv 2) pa_nil))))) (pss_one (ps_if (pt_cmpR op_eq (pv 0) pe_int (nomark _)) (pss_one (ps_expr (pe_callS G_set_of (hr.mono (by decide)) (by rfl) g_set_of k_set_of b_set_of (fun σ => passAt tk σ) (pa_cons (pv 1) (pa_cons (pv 2) (pa_cons (pv 3) pa_nil)))))) (pss_one (ps_expr (pe_callS G_middle (hr.mono (by decide)) (by rfl) g_middle k_middle b_middle (fun σ => passAt tk σ) (pa_cons (pv 1) pa_nil))))))))))) (fun a oe cls d pn hz hf => (pss_one (ps_ret (pe_callP G__law_word_of (roomP hr (by decide)) (List.mem_cons_self ..) hz hf (by rfl) g__law_word_of k__law_word_of b__law_word_of (pa_cons (pv 4) pa_nil))))))
    (pss_one (ps_ret pe_str))), ?_⟩
    have eM := PySem.W.exm_ref Z_ChainError.b Z_ChainError.d Z_ChainError.t Y_NoMany.up
    have eN := PySem.W.exm_ref Z_ChainError.b Z_ChainError.d Z_ChainError.t Y_NoNumber.up
    rcases hw with ⟨rfl, hm, rfl⟩ | ⟨rfl, ⟨n, rfl, hn⟩, rfl⟩ | ⟨hwh, hm, rfl⟩ | ⟨rfl, ⟨n, rfl, hn⟩, rfl⟩ | ⟨hwh, ⟨n, rfl, hn, hN⟩, rfl⟩ | ⟨rfl, ⟨n, rfl, hn, h0, h1⟩, rfl⟩ | ⟨rfl, ⟨n, rfl, hn, h0, h1, hp⟩, rfl⟩ | ⟨rfl, ⟨n, j, rfl, hn, h0, h1, rfl, hj⟩, rfl⟩
    · refine ⟨_, rfl, rfl, _, rfl, iteF ?_⟩
      refine ⟨_, rfl, rfl, _, rfl, iteF ?_⟩
      refine ⟨_, rfl, rfl, _, rfl, iteF ?_⟩
      refine ⟨_, rfl, m, rfl, fun _ => ⟨true, eM, (fun _ a na => ?_), (fun z => nomatch z)⟩, fun n e hn => absurd hm (by omega)⟩
      exact ⟨_, rfl, rfl, C_NoMany, _, _, _, _, _, rfl, rfl, Y_NoMany, .inl ⟨rfl, rfl, rfl, rfl, rfl⟩, fun H2 s2 => q _ s2⟩
    · refine ⟨_, rfl, rfl, _, rfl, iteF ?_⟩
      refine ⟨_, rfl, rfl, _, rfl, iteF ?_⟩
      refine ⟨_, rfl, rfl, _, rfl, iteF ?_⟩
      exact ⟨_, rfl, (n : Int), rfl, fun z => absurd z (by omega), fun n' e' _ H' p as G => q _ G.same⟩
    · have sM : ∀ H1, H1 = H → (∀ H2, Same H1 H2 → Q (.str (Str.ofString "many")) H2) := fun H1 e H2 s2 => q _ (e ▸ s2)
      refine ⟨_, rfl, rfl, _, rfl, ?_⟩
      by_cases w0 : wh = 0
      · rw [vi_eq w0]
        refine iteT ⟨_, rfl, m, rfl, fun _ => ⟨true, eM, (fun _ a na => ?_), (fun z => nomatch z)⟩, fun z => absurd hm z⟩
        exact ⟨_, rfl, rfl, C_NoMany, _, _, _, _, _, rfl, rfl, Y_NoMany, .inl ⟨rfl, rfl, rfl, rfl, rfl⟩, fun H2 s2 => q _ s2⟩
      rw [vi_ne w0]
      refine iteF ⟨_, rfl, rfl, _, rfl, ?_⟩
      by_cases w1 : wh = 1
      · rw [vi_eq w1]
        refine iteT ⟨_, rfl, _, rfl, m, N, rfl, NGuard.m hm ⟨true, eM, (fun _ a na => ?_), (fun z => nomatch z)⟩⟩
        exact ⟨_, rfl, rfl, C_NoMany, _, _, _, _, _, rfl, rfl, Y_NoMany, .inl ⟨rfl, rfl, rfl, rfl, rfl⟩, fun H2 s2 => q _ s2⟩
      rw [vi_ne w1]
      refine iteF ⟨_, rfl, rfl, _, rfl, ?_⟩
      rw [vi_eq (show wh = 2 by omega)]
      refine iteT ⟨_, rfl, _, rfl, _, rfl, m, N, pl, rfl, SGuard.m hm ⟨true, eM, (fun _ a na => ?_), (fun z => nomatch z)⟩⟩
      exact ⟨_, rfl, rfl, C_NoMany, _, _, _, _, _, rfl, rfl, Y_NoMany, .inl ⟨rfl, rfl, rfl, rfl, rfl⟩, fun H2 s2 => q _ s2⟩
    · refine ⟨_, rfl, rfl, _, rfl, iteT ?_⟩
      exact ⟨_, rfl, (n : Int), rfl, fun z => absurd z (by omega), fun _ => q _ (Same.refl _)⟩
    · refine ⟨_, rfl, rfl, _, rfl, ?_⟩
      rw [vi_ne (show ¬ wh = 0 by omega)]
      refine iteF ⟨_, rfl, rfl, _, rfl, ?_⟩
      by_cases w1 : wh = 1
      · rw [vi_eq w1]
        refine iteT ⟨_, rfl, _, rfl, (n : Int), N, rfl, NGuard.n hn hN ⟨true, eN, (fun _ a na => ?_), (fun z => nomatch z)⟩⟩
        exact ⟨_, rfl, rfl, C_NoNumber, _, _, _, _, _, rfl, rfl, Y_NoNumber, .inr (.inr (.inl ⟨rfl, rfl, rfl, rfl, rfl⟩)), fun H2 s2 => q _ s2⟩
      rw [vi_ne w1]
      refine iteF ⟨_, rfl, rfl, _, rfl, ?_⟩
      rw [vi_eq (show wh = 2 by omega)]
      refine iteT ⟨_, rfl, _, rfl, _, rfl, (n : Int), N, pl, rfl, SGuard.n hn hN ⟨true, eN, (fun _ a na => ?_), (fun z => nomatch z)⟩⟩
      exact ⟨_, rfl, rfl, C_NoNumber, _, _, _, _, _, rfl, rfl, Y_NoNumber, .inr (.inr (.inl ⟨rfl, rfl, rfl, rfl, rfl⟩)), fun H2 s2 => q _ s2⟩
    · refine ⟨_, rfl, rfl, _, rfl, iteF ?_⟩
      refine ⟨_, rfl, rfl, _, rfl, iteT ?_⟩
      exact ⟨_, rfl, _, rfl, (n : Int), N, rfl, NGuard.of hn h0 h1 fun p np => q _ (same_new np)⟩
    · refine ⟨_, rfl, rfl, _, rfl, iteF ?_⟩
      refine ⟨_, rfl, rfl, _, rfl, iteF ?_⟩
      refine ⟨_, rfl, rfl, _, rfl, iteT ?_⟩
      refine ⟨_, rfl, _, rfl, _, rfl, (n : Int), N, pl, rfl, SGuard.p hn h0 h1 hp fun H1 s1 => ⟨true, eN, (fun _ a na => ?_), (fun z => nomatch z)⟩⟩
      exact ⟨_, rfl, rfl, C_NoNumber, _, _, _, _, _, rfl, rfl, Y_NoNumber, .inr (.inr (.inl ⟨rfl, rfl, rfl, rfl, rfl⟩)), fun H2 s2 => q _ (s1.trans s2)⟩
    · refine ⟨_, rfl, rfl, _, rfl, iteF ?_⟩
      refine ⟨_, rfl, rfl, _, rfl, iteF ?_⟩
      refine ⟨_, rfl, rfl, _, rfl, iteT ?_⟩
      exact ⟨_, rfl, _, rfl, _, rfl, (n : Int), N, (j : Int), rfl, SGuard.of hn h0 h1 hj fun H1 p s1 np hp => q _ s1⟩
/-! #### the law -/
def spLaw (K : PySem.W.Frag) : Sp := fun vs H Q _ => ∃ (a : Addr) (ns : List Int), vs = [.ref a] ∧ SqL K H a (ns.map V.int) ∧ ns.length ≤ 63 ∧ ∀ H', Q (.bl true) H'
theorem pick6 (a0 a1 a2 a3 a4 a5 : Int) (w : Nat) (h : w < 6) : ∃ N, atI [V.int a0, V.int a1, V.int a2, V.int a3, V.int a4, V.int a5] (w : Int) = some (V.int N) ∧
    ((w = 0 ∧ N = a0) ∨ (w = 1 ∧ N = a1) ∨ (w = 2 ∧ N = a2) ∨ (w = 3 ∧ N = a3) ∨ (w = 4 ∧ N = a4) ∨ (w = 5 ∧ N = a5)) := by
  match w, h with
  | 0, _ => exact ⟨a0, atI_nat rfl, by omega⟩
  | 1, _ => exact ⟨a1, atI_nat rfl, by omega⟩
  | 2, _ => exact ⟨a2, atI_nat rfl, by omega⟩
  | 3, _ => exact ⟨a3, atI_nat rfl, by omega⟩
  | 4, _ => exact ⟨a4, atI_nat rfl, by omega⟩
  | 5, _ => exact ⟨a5, atI_nat rfl, by omega⟩
theorem pick4 (a0 a1 a2 a3 : Int) (w : Nat) (h : w < 4) : ∃ N, atI [V.int a0, V.int a1, V.int a2, V.int a3] (w : Int) = some (V.int N) ∧ (N = a0 ∨ N = a1 ∨ N = a2 ∨ N = a3) := by
  match w, h with
  | 0, _ => exact ⟨a0, atI_nat rfl, by omega⟩
  | 1, _ => exact ⟨a1, atI_nat rfl, by omega⟩
  | 2, _ => exact ⟨a2, atI_nat rfl, by omega⟩
  | 3, _ => exact ⟨a3, atI_nat rfl, by omega⟩
theorem pick2 (a0 a1 : Int) (w : Nat) (h : w < 2) : ∃ N, atI [V.int a0, V.int a1] (w : Int) = some (V.int N) ∧ (N = a0 ∨ N = a1) := by
  match w, h with
  | 0, _ => exact ⟨a0, atI_nat rfl, by omega⟩
  | 1, _ => exact ⟨a1, atI_nat rfl, by omega⟩
abbrev sDone : Str := Str.ofString "done"
abbrev sNumber : Str := Str.ofString "number"
abbrev sMany : Str := Str.ofString "many"
/-- what is due of the three -/
structure Due3 (m N pl : Int) (z0 z1 z2 : Str) : Prop where
  w0 : W17 0 m N pl z0
  w1 : W17 1 m N pl z1
  w2 : W17 2 m N pl z2
theorem ok_law {C_NoMany : Addr} {C_NoNumber : Addr} {f : Addr} {fd : FuncData} (F : Fun K "law" "law" s_law f fd) (B : Bt mg tM) (D__law_picks : Def P w K mg base CX0 1 "_law_picks" ["total", "some"] spLPicks) (D__law_cell_at : Def P w K mg base CX0 1 "_law_cell_at" ["script", "k"] (spCellAt K)) (D__law_tried : Def P w K mg base CX0 6 "_law_tried" ["which", "size", "number", "place"] spTried) (D_bottom_of : Def P w K mg base (L2.CX P w) 4 "bottom_of" ["many", "number"] (spBotOf C_NoMany C_NoNumber)) :
    FnOk P w K mg base CX0 7 f fd ["script"] (spLaw K) := by
  obtain ⟨f__law_picks, fd__law_picks, G__law_picks, g__law_picks, k__law_picks, b__law_picks⟩ := D__law_picks.ex
  obtain ⟨f__law_cell_at, fd__law_cell_at, G__law_cell_at, g__law_cell_at, k__law_cell_at, b__law_cell_at⟩ := D__law_cell_at.ex
  obtain ⟨f__law_tried, fd__law_tried, G__law_tried, g__law_tried, k__law_tried, b__law_tried⟩ := D__law_tried.ex
  obtain ⟨f_bottom_of, fd_bottom_of, G_bottom_of, g_bottom_of, k_bottom_of, b_bottom_of⟩ := D_bottom_of.ex
  refine F.ok sc_law (fun vs H Q E h => ?_) (fun cdv A outer s H vs Q E hr h => ?_)
  · obtain ⟨a, ns, rfl, _⟩ := h
    rfl
  · obtain ⟨a, ns, rfl, hS, hlen, q⟩ := h
    refine ⟨_, (pss_cons (ps_set (i := 1) sc_law.nd rfl (.inl rfl) (pe_op op_mod (pe_call G__law_cell_at (hr.mono (by decide)) (by rfl) g__law_cell_at k__law_cell_at b__law_cell_at .nil pass0 (pa_cons (pv 0) (pa_cons pe_int pa_nil))) pe_int))
    (pss_cons (ps_set (i := 2) sc_law.nd rfl (.inl rfl) (pe_call G__law_picks (hr.mono (by decide)) (by rfl) g__law_picks k__law_picks b__law_picks .nil pass0 (pa_cons (pv 1) (pa_cons (pe_op op_fdiv (pv 1) pe_int) pa_nil))))
    (pss_cons (ps_set (i := 3) sc_law.nd rfl (.inl rfl) (pe_op op_mod (pe_call G__law_cell_at (hr.mono (by decide)) (by rfl) g__law_cell_at k__law_cell_at b__law_cell_at .nil pass0 (pa_cons (pv 0) (pa_cons pe_int pa_nil))) (pe_op op_pow pe_int pe_int)))
    (pss_cons (ps_set (i := 4) sc_law.nd rfl (.inl rfl) (pe_op op_mod (pe_call G__law_cell_at (hr.mono (by decide)) (by rfl) g__law_cell_at k__law_cell_at b__law_cell_at .nil pass0 (pa_cons (pv 0) (pa_cons pe_int pa_nil))) pe_int))
    (pss_cons (ps_set (i := 5) sc_law.nd rfl (.inl rfl) (pe_ix ix_list (pe_lst (pa_cons (pe_un un_neg pe_int) (pa_cons (pv 2) (pa_cons (pe_op op_sub (pe_un un_neg pe_int) (pv 3)) (pa_cons (pe_op op_add (pv 2) (pv 3)) (pa_cons (pe_op op_mod (pv 3) (pv 2)) (pa_cons pe_int pa_nil))))))) (pv 4) (fun _ _ => rfl)))
    (pss_cons (ps_set (i := 6) sc_law.nd rfl (.inl rfl) (pe_op op_sub (pv 1) (pe_op op_mul pe_int (pe_callB call_len_seq (by rfl) B.len (by decide +kernel) (pa_cons (pe_call G_bottom_of (hr.mono (by decide)) (by rfl) g_bottom_of k_bottom_of b_bottom_of .nil passL (pa_cons (pv 1) (pa_cons (pe_callB (call_max2 rfl) (by rfl) B.max (by decide +kernel) (pa_cons pe_int (pa_cons (pe_callB (call_min2 rfl) (by rfl) B.min (by decide +kernel) (pa_cons (pv 5) (pa_cons (pe_op op_sub (pv 2) pe_int) pa_nil))) pa_nil))) pa_nil))) pa_nil)))))
    (pss_cons (ps_set (i := 7) sc_law.nd rfl (.inl rfl) (pe_op op_mod (pe_call G__law_cell_at (hr.mono (by decide)) (by rfl) g__law_cell_at k__law_cell_at b__law_cell_at .nil pass0 (pa_cons (pv 0) (pa_cons pe_int pa_nil))) pe_int))
    (pss_cons (ps_set (i := 8) sc_law.nd rfl (.inl rfl) (pe_ix ix_list (pe_lst (pa_cons (pe_un un_neg pe_int) (pa_cons (pe_op op_add (pv 6) pe_int) (pa_cons (pe_op op_sub (pe_un un_neg pe_int) (pv 3)) (pa_cons (pe_op op_add (pe_op op_add (pv 6) pe_int) (pv 3)) (pa_cons (pe_op op_mod (pv 3) (pe_op op_add (pv 6) pe_int)) (pa_cons pe_int pa_nil))))))) (pv 7) (fun _ _ => rfl)))
    (pss_cons (ps_set (i := 9) sc_law.nd rfl (.inl rfl) (pe_lst (pa_cons pe_str (pa_cons pe_str (pa_cons pe_str pa_nil)))))
    (Evl.pss_cut (ps_if (pt_cmpR op_lt (pv 7) pe_int (nomark _)) (pss_one (ps_set (i := 9) sc_law.nd rfl (.inl rfl) (pe_lst (pa_cons pe_str (pa_cons pe_str (pa_cons pe_str pa_nil)))))) pss_nil)
    (Evl.pss_cut (ps_if (pt_cmpR op_lt (pv 4) pe_int (nomark _)) (pss_one (ps_set (i := 9) sc_law.nd rfl (.inl rfl) (pe_lst (pa_cons pe_str (pa_cons pe_str (pa_cons pe_str pa_nil)))))) pss_nil)
    (Evl.pss_cut (ps_if (pt_cmpR op_eq (pe_op op_mod (pe_call G__law_cell_at (hr.mono (by decide)) (by rfl) g__law_cell_at k__law_cell_at b__law_cell_at .nil pass0 (pa_cons (pv 0) (pa_cons pe_int pa_nil))) pe_int) pe_int (nomark _)) (pss_cons (ps_set (i := 1) sc_law.nd rfl (.inl rfl) (pe_ix ix_list (pe_lst (pa_cons (pe_un un_neg pe_int) (pa_cons pe_int (pa_cons (pe_op op_sub (pe_un un_neg pe_int) (pv 3)) (pa_cons (pe_op op_add pe_int (pv 3)) pa_nil))))) (pe_op op_mod (pe_op op_fdiv (pe_call G__law_cell_at (hr.mono (by decide)) (by rfl) g__law_cell_at k__law_cell_at b__law_cell_at .nil pass0 (pa_cons (pv 0) (pa_cons pe_int pa_nil))) pe_int) pe_int) (fun _ _ => rfl)))
    (pss_one (ps_set (i := 9) sc_law.nd rfl (.inl rfl) (pe_lst (pa_cons pe_str (pa_cons pe_str (pa_cons pe_str pa_nil))))))) pss_nil)
    (pss_cons (ps_for PassesOwn.never rfl (pi_range1 (by rfl) B.range (pa_cons pe_int pa_nil)) (pg_name (i := 10) sc_law.nd rfl (.inl rfl)) (pss_one (ps_if (pt_cmpR op_ne (pe_call G__law_tried (hr.mono (by decide)) (by rfl) g__law_tried k__law_tried b__law_tried .nil pass0 (pa_cons (pv 10) (pa_cons (pv 1) (pa_cons (pv 5) (pa_cons (pv 8) pa_nil))))) (pe_ix ix_list (pv 9) (pv 10) (fun _ _ => rfl)) (nomark _)) (pss_one (ps_ret pe_bl)) pss_nil)))
    (Evl.pss_cut (ps_if (pt_cmpR op_eq (pe_op op_mod (pe_call G__law_cell_at (hr.mono (by decide)) (by rfl) g__law_cell_at k__law_cell_at b__law_cell_at .nil pass0 (pa_cons (pv 0) (pa_cons pe_int pa_nil))) pe_int) pe_int (nomark _)) (pss_one (ps_ret (pe_cmpR op_eq (pe_call G__law_tried (hr.mono (by decide)) (by rfl) g__law_tried k__law_tried b__law_tried .nil pass0 (pa_cons pe_int (pa_cons (pe_ix ix_list (pe_lst (pa_cons (pe_op op_add pe_int (pv 3)) (pa_cons (pe_op op_sub (pe_un un_neg pe_int) (pv 3)) pa_nil))) (pe_op op_mod (pe_op op_fdiv (pe_call G__law_cell_at (hr.mono (by decide)) (by rfl) g__law_cell_at k__law_cell_at b__law_cell_at .nil pass0 (pa_cons (pv 0) (pa_cons pe_int pa_nil))) pe_int) pe_int) (fun _ _ => rfl)) (pa_cons pe_int (pa_cons pe_int pa_nil))))) pe_str (nomark _)))) pss_nil)
    (pss_one (ps_ret (pe_cmpR op_eq (pe_call G__law_tried (hr.mono (by decide)) (by rfl) g__law_tried k__law_tried b__law_tried .nil pass0 (pa_cons pe_int (pa_cons (pe_op op_mod (pe_op op_fdiv (pe_call G__law_cell_at (hr.mono (by decide)) (by rfl) g__law_cell_at k__law_cell_at b__law_cell_at .nil pass0 (pa_cons (pv 0) (pa_cons pe_int pa_nil))) pe_int) pe_int) (pa_cons pe_int (pa_cons pe_int pa_nil))))) pe_str (nomark _)))))))))))))))))), ?_⟩
    refine ⟨_, rfl, a, ns, 0, rfl, hS, _, _, rfl, rfl, (by show (0 : Int) < 41; decide), ?_⟩
    obtain ⟨n, hn, e⟩ : ∃ n : Nat, n ≤ 40 ∧ cellI ns 0 % 41 = (n : Int) := ⟨(cellI ns 0 % 41).toNat, by omega, by omega⟩
    show gName 1 (V.int (cellI ns 0 % 41)) _ _ _
    rw [e]
    have en : ((n : Int)).toNat = n := rfl
    have tp := ch_pos (show n / 2 ≤ n by omega)
    have e2 : ((n : Int) / 2) = ((n / 2 : Nat) : Int) := by omega
    refine ⟨_, rfl, _, rfl, _, _, rfl, rfl, ⟨by decide, by decide⟩, n, n / 2, by show [V.int (n : Int), V.int ((n : Int) / 2)] = _; rw [e2], by omega, by omega, fun H1 s1 => ?_⟩
    have hS1 := s1.seq hS
    -- far, way
    refine ⟨_, rfl, a, ns, 1, rfl, hS1, _, _, rfl, rfl, ⟨by decide, by decide, by decide⟩, _, _, rfl, rfl, (by show (0 : Int) < 10 ^ 30; decide), ?_⟩
    show gName 3 (V.int (cellI ns 1 % 10 ^ (30 : Int).toNat)) _ _ _
    have f0 : 0 ≤ cellI ns 1 % 10 ^ (30 : Int).toNat := Int.emod_nonneg _ (by decide)
    generalize cellI ns 1 % 10 ^ (30 : Int).toNat = far at *
    refine ⟨_, rfl, a, ns, 2, rfl, hS1, _, _, rfl, rfl, (by show (0 : Int) < 6; decide), ?_⟩
    obtain ⟨w, hw, ew⟩ : ∃ w : Nat, w < 6 ∧ cellI ns 2 % 6 = (w : Int) := ⟨(cellI ns 2 % 6).toNat, by omega, by omega⟩
    show gName 4 (V.int (cellI ns 2 % 6)) _ _ _
    rw [ew]
    have hT : (0 : Int) < (ch n (n / 2) : Int) := by omega
    have m0 := Int.emod_nonneg far (b := (ch n (n / 2) : Int)) (by omega)
    have m1 := Int.emod_lt_of_pos far hT
    obtain ⟨N, atN, hN⟩ := pick6 (-1) (ch n (n / 2) : Int) (-1 - far) ((ch n (n / 2) : Int) + far) (far % (ch n (n / 2) : Int)) 0 w hw
    have nbad : w < 4 → N < 0 ∨ (ch n (n / 2) : Int) ≤ N := fun z => by omega
    have ngood : 4 ≤ w → 0 ≤ N ∧ N < (ch n (n / 2) : Int) := fun z => by omega
    refine ⟨1, rfl, _, rfl, 1, rfl, _, rfl, _, _, rfl, rfl, _, rfl, _, rfl, _, _, rfl, rfl, _, rfl, _, rfl, _, _, rfl, rfl, hT, sz_le (by show 6 ≤ _; omega), fun l1 nl1 => ?_⟩
    refine ⟨_, rfl, l1, _, _, V.int N, rfl, rfl, SqL.of upd_same, atN, ?_⟩
    have s2 := s1.trans (same_new (o := .lst [.int (-1), .int (ch n (n / 2) : Int), .int (-1 - far), .int ((ch n (n / 2) : Int) + far), .int (far % (ch n (n / 2) : Int)), .int 0]) nl1)
    generalize upd H1 l1 _ = H2 at *
    clear atN hN
    -- last
    have c0 : 0 ≤ (if (if (ch n (n / 2) : Int) - 1 < N then (ch n (n / 2) : Int) - 1 else N) > 0 then (if (ch n (n / 2) : Int) - 1 < N then (ch n (n / 2) : Int) - 1 else N) else 0) := by split <;> omega
    have c1 : (if (if (ch n (n / 2) : Int) - 1 < N then (ch n (n / 2) : Int) - 1 else N) > 0 then (if (ch n (n / 2) : Int) - 1 < N then (ch n (n / 2) : Int) - 1 else N) else 0) < (ch n (n / 2) : Int) := by
      split
      · split <;> omega
      · omega
    have c2 : 4 ≤ w → (if (if (ch n (n / 2) : Int) - 1 < N then (ch n (n / 2) : Int) - 1 else N) > 0 then (if (ch n (n / 2) : Int) - 1 < N then (ch n (n / 2) : Int) - 1 else N) else 0) = N := fun z => by
      have := ngood z
      rw [if_neg (show ¬ (ch n (n / 2) : Int) - 1 < N by omega)]
      split <;> omega
    refine ⟨_, rfl, _, rfl, _, rfl, _, rfl, _, _, rfl, rfl, _, _, rfl, _, _, rfl, (n : Int), _, rfl, NGuard.of hn c0 c1 fun b nb => ?_⟩
    rw [en]
    generalize (if (if (ch n (n / 2) : Int) - 1 < N then (ch n (n / 2) : Int) - 1 else N) > 0 then (if (ch n (n / 2) : Int) - 1 < N then (ch n (n / 2) : Int) - 1 else N) else 0) = c at *
    obtain ⟨b1, b2, b3, b4⟩ := bottom_facts c0 c1
    have s3 := s2.trans (same_new (o := .lst ((bottomL n c).map V.int)) nb)
    have bsum := fin_sum n (bottomL n c)
    have blen := set_len b1
    rw [b2] at bsum blen
    simp only [List.length_nil] at bsum blen
    refine ⟨b, _, rfl, .inl (SqL.of upd_same), _, _, rfl, rfl, .inl ⟨by decide, by decide⟩, _, _, rfl, rfl, ?_⟩
    generalize upd H2 b (.lst ((bottomL n c).map V.int)) = H3 at *
    show gName 6 (V.int ((n : Int) - 2 * (((bottomL n c).map V.int).length : Int))) _ _ _
    have el : (n : Int) - 2 * (((bottomL n c).map V.int).length : Int) = ((fin n (bottomL n c)).wt.length : Int) := by
      rw [List.length_map]
      omega
    rw [el]
    have lastN : 4 ≤ w → (fin n (bottomL n N)).wt.length = (fin n (bottomL n c)).wt.length := fun z => by rw [c2 z]
    generalize (fin n (bottomL n c)).wt.length = L at *
    have hS3 := s3.seq hS
    refine ⟨_, rfl, a, ns, 3, rfl, hS3, _, _, rfl, rfl, (by show (0 : Int) < 6; decide), ?_⟩
    obtain ⟨st, hst, est⟩ : ∃ w : Nat, w < 6 ∧ cellI ns 3 % 6 = (w : Int) := ⟨(cellI ns 3 % 6).toNat, by omega, by omega⟩
    show gName 7 (V.int (cellI ns 3 % 6)) _ _ _
    rw [est]
    have hL1 : (0 : Int) < (L : Int) + 1 := by omega
    have p0 := Int.emod_nonneg far (b := (L : Int) + 1) (by omega)
    have p1 := Int.emod_lt_of_pos far hL1
    obtain ⟨pl, atP, hP⟩ := pick6 (-1) ((L : Int) + 1) (-1 - far) ((L : Int) + 1 + far) (far % ((L : Int) + 1)) 0 st hst
    have pbad : st < 4 → pl < 0 ∨ (L : Int) < pl := fun z => by omega
    have pgood : 4 ≤ st → 0 ≤ pl ∧ pl ≤ (L : Int) := fun z => by omega
    refine ⟨1, rfl, _, rfl, _, _, rfl, rfl, 1, rfl, _, rfl, _, _, rfl, rfl, _, rfl, _, _, rfl, rfl, _, rfl, _, _, rfl, rfl, _, rfl, _, rfl, _, _, rfl, rfl, _, _, rfl, rfl, hL1, sz_le (by show 6 ≤ _; omega), fun l2 nl2 => ?_⟩
    refine ⟨_, rfl, l2, _, _, V.int pl, rfl, rfl, SqL.of upd_same, atP, ?_⟩
    have s4 := s3.trans (same_new (o := .lst [.int (-1), .int ((L : Int) + 1), .int (-1 - far), .int ((L : Int) + 1 + far), .int (far % ((L : Int) + 1)), .int 0]) nl2)
    generalize upd H3 l2 _ = H4 at *
    clear atP hP
    -- due
    refine ⟨sz_le (by show 3 ≤ _; omega), fun d0 nd0 => ?_⟩
    have s5 := s4.trans (same_new (o := .lst [.str sDone, .str sDone, .str sDone]) nd0)
    refine ⟨fun σ' H' => Same H H' ∧ ∃ d, σ' = [some (.ref a), some (.int (n : Int)), some (.int (ch n (n / 2) : Int)), some (.int far), some (.int (w : Int)), some (.int N), some (.int (L : Int)), some (.int (st : Int)), some (.int pl), some (.ref d), none] ∧ H' d = some (.lst [.str sDone, .str sDone, .str (if st < 4 then sNumber else sDone)]), ?_, ?_⟩
    · refine ⟨_, rfl, _, _, rfl, rfl, _, rfl, ?_⟩
      by_cases z : (st : Int) < 4
      · rw [decide_eq_true z]
        refine iteT ⟨sz_le (by show 3 ≤ _; omega), fun d nd => ⟨s5.trans (same_new nd), d, rfl, ?_⟩⟩
        rw [upd_same, if_pos (by omega)]
      · rw [decide_eq_false z]
        refine iteF ⟨s5, d0, rfl, ?_⟩
        rw [upd_same, if_neg (by omega)]
    rintro σ' H5 ⟨s5, d, rfl, hd⟩
    refine ⟨fun σ' H' => Same H H' ∧ ∃ d z1 z2, σ' = [some (.ref a), some (.int (n : Int)), some (.int (ch n (n / 2) : Int)), some (.int far), some (.int (w : Int)), some (.int N), some (.int (L : Int)), some (.int (st : Int)), some (.int pl), some (.ref d), none] ∧ H' d = some (.lst [.str sDone, .str z1, .str z2]) ∧ Due3 n N pl sDone z1 z2, ?_, ?_⟩
    · have w0 : W17 0 n N pl sDone := .inr (.inr (.inr (.inl ⟨rfl, ⟨n, rfl, hn⟩, rfl⟩)))
      refine ⟨_, rfl, _, _, rfl, rfl, _, rfl, ?_⟩
      by_cases z : (w : Int) < 4
      · rw [decide_eq_true z]
        have nb := nbad (by omega)
        refine iteT ⟨sz_le (by show 3 ≤ _; omega), fun d nd => ⟨s5.trans (same_new nd), d, _, _, rfl, upd_same, w0, ?_, ?_⟩⟩
        · exact .inr (.inr (.inr (.inr (.inl ⟨.inl rfl, ⟨n, rfl, hn, nb⟩, rfl⟩))))
        · exact .inr (.inr (.inr (.inr (.inl ⟨.inr rfl, ⟨n, rfl, hn, nb⟩, rfl⟩))))
      · rw [decide_eq_false z]
        obtain ⟨g0, g1⟩ := ngood (by omega)
        have eL := lastN (by omega)
        refine iteF ⟨s5, d, _, _, rfl, hd, w0, ?_, ?_⟩
        · exact .inr (.inr (.inr (.inr (.inr (.inl ⟨rfl, ⟨n, rfl, hn, g0, g1⟩, rfl⟩)))))
        · by_cases y : st < 4
          · rw [if_pos y]
            exact .inr (.inr (.inr (.inr (.inr (.inr (.inl ⟨rfl, ⟨n, rfl, hn, g0, g1, by rw [eL]; exact pbad y⟩, rfl⟩))))))
          · rw [if_neg y]
            have pg := pgood (by omega)
            exact .inr (.inr (.inr (.inr (.inr (.inr (.inr ⟨rfl, ⟨n, pl.toNat, rfl, hn, g0, g1, by omega, by omega⟩, rfl⟩))))))
    clear hd s5 d
    rintro σ' H6 ⟨s6, d, z1, z2, rfl, hd, D⟩
    have hS6 := s6.seq hS
    refine ⟨fun σ' H' => Same H H' ∧ ∃ m d z0 z1 z2, σ' = [some (.ref a), some (.int m), some (.int (ch n (n / 2) : Int)), some (.int far), some (.int (w : Int)), some (.int N), some (.int (L : Int)), some (.int (st : Int)), some (.int pl), some (.ref d), none] ∧ H' d = some (.lst [.str z0, .str z1, .str z2]) ∧ Due3 m N pl z0 z1 z2, ?_, ?_⟩
    · refine ⟨_, rfl, a, ns, 4, rfl, hS6, _, _, rfl, rfl, (by show (0 : Int) < 3; decide), rfl, _, rfl, ite2 (fun _ => ?_) (fun _ => ?_)⟩
      · obtain ⟨k, hk, ek⟩ : ∃ k : Nat, k < 4 ∧ cellI ns 4 / 3 % 4 = (k : Int) := ⟨(cellI ns 4 / 3 % 4).toNat, by omega, by omega⟩
        obtain ⟨m, atM, hM⟩ := pick4 (-1) 41 (-1 - far) (41 + far) k hk
        have mbad : m < 0 ∨ 40 < m := by omega
        refine ⟨1, rfl, 1, rfl, _, rfl, _, _, rfl, rfl, _, rfl, _, _, rfl, rfl, sz_le (by show 4 ≤ _; omega), fun l3 nl3 => ?_⟩
        have s7 := s6.trans (same_new (o := .lst [.int (-1), .int 41, .int (-1 - far), .int (41 + far)]) nl3)
        refine ⟨_, rfl, a, ns, 4, rfl, s7.seq hS, _, _, rfl, rfl, ⟨by decide, by decide⟩, _, _, rfl, rfl, (by show (0 : Int) < 4; decide), l3, _, _, V.int m, rfl, rfl, SqL.of upd_same, ?_, ?_⟩
        · show atI _ (cellI ns 4 / 3 % 4) = _
          rw [ek]
          exact atM
        refine ⟨sz_le (by show 3 ≤ _; omega), fun d' nd' => ⟨s7.trans (same_new nd'), m, d', _, _, _, rfl, upd_same, ?_, ?_, ?_⟩⟩
        · exact .inr (.inr (.inl ⟨.inl rfl, mbad, rfl⟩))
        · exact .inr (.inr (.inl ⟨.inr (.inl rfl), mbad, rfl⟩))
        · exact .inr (.inr (.inl ⟨.inr (.inr rfl), mbad, rfl⟩))
      · exact ⟨s6, n, d, _, _, _, rfl, hd, D⟩
    clear hd D hS6 s6 d z1 z2
    rintro σ' H6 ⟨s6, m, d, z0, z1, z2, rfl, hd, D⟩
    -- the three
    refine ⟨3, rfl, by decide, by decide, ?_⟩
    refine for_range (lo := 0) (n := (3 : Int).toNat) (fun i σ H' => Same H H' ∧ H' d = some (.lst [.str z0, .str z1, .str z2]) ∧ ∃ y, σ = [some (.ref a), some (.int m), some (.int (ch n (n / 2) : Int)), some (.int far), some (.int (w : Int)), some (.int N), some (.int (L : Int)), some (.int (st : Int)), some (.int pl), some (.ref d), y]) ⟨s6, hd, none, rfl⟩ ?_ ?_
    · rintro i σ H7 hi ⟨s7, hd7, y, rfl⟩
      obtain ⟨z, hz, az⟩ : ∃ z, W17 ((0 : Int) + (i : Int)) m N pl z ∧ atI [V.str z0, V.str z1, V.str z2] ((0 : Int) + (i : Int)) = some (.str z) := by
        have hi' : i < 3 := hi
        match i, hi' with
        | 0, _ => exact ⟨z0, D.w0, atI_nat (j := 0) rfl⟩
        | 1, _ => exact ⟨z1, D.w1, atI_nat (j := 1) rfl⟩
        | 2, _ => exact ⟨z2, D.w2, atI_nat (j := 2) rfl⟩
      refine ⟨_, rfl, _, rfl, _, rfl, _, rfl, _, m, N, pl, z, rfl, hz, fun H8 s8 => ?_⟩
      refine ⟨_, rfl, _, rfl, d, _, _, _, rfl, rfl, SqL.of (s8 _ _ hd7), az, rfl, _, rfl, ?_⟩
      rw [decide_eq_true rfl]
      exact iteF ⟨s7.trans s8, s8 _ _ hd7, _, rfl⟩
    rintro σ H7 ⟨s7, hd7, y, rfl⟩
    have hS7 := s7.seq hS
    -- middle
    refine ⟨fun σ' H' => H7 = H' ∧ σ' = [some (.ref a), some (.int m), some (.int (ch n (n / 2) : Int)), some (.int far), some (.int (w : Int)), some (.int N), some (.int (L : Int)), some (.int (st : Int)), some (.int pl), some (.ref d), y], ?_, ?_⟩
    · refine ⟨_, rfl, a, ns, 5, rfl, hS7, _, _, rfl, rfl, (by show (0 : Int) < 2; decide), rfl, _, rfl, ite2 (fun _ => ?_) (fun _ => ⟨rfl, rfl⟩)⟩
      obtain ⟨k, hk, ek⟩ : ∃ k : Nat, k < 2 ∧ cellI ns 5 / 2 % 2 = (k : Int) := ⟨(cellI ns 5 / 2 % 2).toNat, by omega, by omega⟩
      obtain ⟨v, atM, hM⟩ := pick2 (9 + far) (-1 - far) k hk
      refine ⟨_, rfl, _, _, rfl, rfl, 1, rfl, _, rfl, _, _, rfl, rfl, sz_le (by show 2 ≤ _; omega), fun l3 nl3 => ?_⟩
      have s8 := s7.trans (same_new (o := .lst [.int (9 + far), .int (-1 - far)]) nl3)
      refine ⟨_, rfl, a, ns, 5, rfl, s8.seq hS, _, _, rfl, rfl, ⟨by decide, by decide⟩, _, _, rfl, rfl, (by show (0 : Int) < 2; decide), l3, _, _, V.int v, rfl, rfl, SqL.of upd_same, ?_, ?_⟩
      · show atI _ (cellI ns 5 / 2 % 2) = _
        rw [ek]
        exact atM
      exact ⟨3, v, 0, 0, _, rfl, .inl ⟨rfl, by omega, rfl⟩, fun H8 s8 => ⟨rfl, q _⟩⟩
    rintro σ' H' ⟨rfl, rfl⟩
    refine ⟨_, rfl, a, ns, 5, rfl, hS7, _, _, rfl, rfl, ⟨by decide, by decide⟩, _, _, rfl, rfl, (by show (0 : Int) < 9; decide), 3, _, 0, 0, _, rfl, .inr (.inl ⟨rfl, ⟨(cellI ns 5 / 2 % 9).toNat, ?_, by omega⟩, rfl⟩), fun H8 s8 => ⟨rfl, q _⟩⟩
    show cellI ns 5 / 2 % 9 = _
    omega
end
/-! ### what the top has written; the end -/
theorem all_mk {l : PySem.W.OpenLaw} {w : World} {K : PySem.W.Frag} {h : Heap} {mg : Str → Option Value} {fa f0 f1 f2 f3 f4 f5 f6 f7 f8 f9 f10 f11 f12 f13 C_ChainError C_NoMany C_NoSet C_NoNumber C_NoNote : Addr} {tM : Tok}
    {od0 an0 od1 an1 od2 an2 od3 an3 od4 an4 od5 an5 od6 an6 od7 an7 od8 an8 od9 an9 od10 an10 od11 an11 od12 an12 od13 an13 : Option Addr} {sl0 sl1 sl2 sl3 sl4 sl5 sl6 sl7 sl8 sl9 sl10 sl11 sl12 sl13 : Array (Option Value)} {oc0 kV0 dc0 pm0 cd0 ct0 oc1 kV1 dc1 pm1 cd1 ct1 oc2 kV2 dc2 pm2 cd2 ct2 oc3 kV3 dc3 pm3 cd3 ct3 oc4 kV4 dc4 pm4 cd4 ct4 oc5 kV5 dc5 pm5 cd5 ct5 oc6 kV6 dc6 pm6 cd6 ct6 oc7 kV7 dc7 pm7 cd7 ct7 oc8 kV8 dc8 pm8 cd8 ct8 oc9 kV9 dc9 pm9 cd9 ct9 oc10 kV10 dc10 pm10 cd10 ct10 oc11 kV11 dc11 pm11 cd11 ct11 oc12 kV12 dc12 pm12 cd12 ct12 oc13 kV13 dc13 pm13 cd13 ct13 : Value}
    (X : K.In h) (G : h.Ns mainGlobals mg) (hfa : mg "law" = some (.ref fa))
    (xn0 : PySem.W.nsIn K mainGlobals "NoMany" = some (some (.ref C_NoMany)))
    (xx0 : PySem.W.excIn K C_NoMany [.type "ValueError", .type "Exception", .type "BaseException", .type "object"] "ValueError.__new__" = true)
    (xk0 : PySem.W.keepIn K (.ref C_NoMany) = true)
    (xb0 : PySem.W.subIn K (.ref C_NoMany) (.type "BaseException") = some true)
    (xt0 : PySem.W.typeIn K (.ref C_NoMany) = some (.type "type"))
    (xn1 : PySem.W.nsIn K mainGlobals "NoNumber" = some (some (.ref C_NoNumber)))
    (xx1 : PySem.W.excIn K C_NoNumber [.type "ValueError", .type "Exception", .type "BaseException", .type "object"] "ValueError.__new__" = true)
    (xk1 : PySem.W.keepIn K (.ref C_NoNumber) = true)
    (xb1 : PySem.W.subIn K (.ref C_NoNumber) (.type "BaseException") = some true)
    (xt1 : PySem.W.typeIn K (.ref C_NoNumber) = some (.type "type"))
    (zn_ChainError : PySem.W.nsIn K mainGlobals "ChainError" = some (some (.ref C_ChainError)))
    (zd_ChainError : PySem.W.hasDictIn K C_ChainError = true)
    (zt_ChainError : PySem.W.typeIn K (.ref C_ChainError) = some (.type "type"))
    (zb_ChainError : PySem.W.subIn K (.ref C_ChainError) (.type "BaseException") = some true)
    (zn_NoMany : PySem.W.nsIn K mainGlobals "NoMany" = some (some (.ref C_NoMany)))
    (zd_NoMany : PySem.W.hasDictIn K C_NoMany = true)
    (zt_NoMany : PySem.W.typeIn K (.ref C_NoMany) = some (.type "type"))
    (zb_NoMany : PySem.W.subIn K (.ref C_NoMany) (.type "BaseException") = some true)
    (zn_NoSet : PySem.W.nsIn K mainGlobals "NoSet" = some (some (.ref C_NoSet)))
    (zd_NoSet : PySem.W.hasDictIn K C_NoSet = true)
    (zt_NoSet : PySem.W.typeIn K (.ref C_NoSet) = some (.type "type"))
    (zb_NoSet : PySem.W.subIn K (.ref C_NoSet) (.type "BaseException") = some true)
    (zn_NoNumber : PySem.W.nsIn K mainGlobals "NoNumber" = some (some (.ref C_NoNumber)))
    (zd_NoNumber : PySem.W.hasDictIn K C_NoNumber = true)
    (zt_NoNumber : PySem.W.typeIn K (.ref C_NoNumber) = some (.type "type"))
    (zb_NoNumber : PySem.W.subIn K (.ref C_NoNumber) (.type "BaseException") = some true)
    (zn_NoNote : PySem.W.nsIn K mainGlobals "NoNote" = some (some (.ref C_NoNote)))
    (zd_NoNote : PySem.W.hasDictIn K C_NoNote = true)
    (zt_NoNote : PySem.W.typeIn K (.ref C_NoNote) = some (.type "type"))
    (zb_NoNote : PySem.W.subIn K (.ref C_NoNote) (.type "BaseException") = some true)
    (yn : PySem.W.specialIn K (.builtin "object.__class__") "__get__" = some (some (.builtin "getset_descriptor.__get__")))
    (yt : PySem.W.takesIn K (.builtin "object.__class__") = some true)
    (yg_NoMany : PySem.W.findIn K (.ref C_NoMany) "__getattribute__" = some (some (.builtin "BaseException.__getattribute__")))
    (yk_NoMany : PySem.W.findIn K (.ref C_NoMany) "__getattr__" = some none)
    (ya_NoMany : PySem.W.findIn K (.ref C_NoMany) "__class__" = some (some (.builtin "object.__class__")))
    (ym_NoMany : PySem.W.mroIn K C_NoMany (.type "object") = some true)
    (yv_NoMany : PySem.W.subIn K (.ref C_NoMany) (.type "ValueError") = some true)
    (ys_NoMany_ChainError : PySem.W.subIn K (.ref C_NoMany) (.ref C_ChainError) = some true)
    (ys_NoMany_NoMany : PySem.W.subIn K (.ref C_NoMany) (.ref C_NoMany) = some true)
    (ys_NoMany_NoSet : PySem.W.subIn K (.ref C_NoMany) (.ref C_NoSet) = some false)
    (ys_NoMany_NoNumber : PySem.W.subIn K (.ref C_NoMany) (.ref C_NoNumber) = some false)
    (ys_NoMany_NoNote : PySem.W.subIn K (.ref C_NoMany) (.ref C_NoNote) = some false)
    (yg_NoNumber : PySem.W.findIn K (.ref C_NoNumber) "__getattribute__" = some (some (.builtin "BaseException.__getattribute__")))
    (yk_NoNumber : PySem.W.findIn K (.ref C_NoNumber) "__getattr__" = some none)
    (ya_NoNumber : PySem.W.findIn K (.ref C_NoNumber) "__class__" = some (some (.builtin "object.__class__")))
    (ym_NoNumber : PySem.W.mroIn K C_NoNumber (.type "object") = some true)
    (yv_NoNumber : PySem.W.subIn K (.ref C_NoNumber) (.type "ValueError") = some true)
    (ys_NoNumber_ChainError : PySem.W.subIn K (.ref C_NoNumber) (.ref C_ChainError) = some true)
    (ys_NoNumber_NoMany : PySem.W.subIn K (.ref C_NoNumber) (.ref C_NoMany) = some false)
    (ys_NoNumber_NoSet : PySem.W.subIn K (.ref C_NoNumber) (.ref C_NoSet) = some false)
    (ys_NoNumber_NoNumber : PySem.W.subIn K (.ref C_NoNumber) (.ref C_NoNumber) = some true)
    (ys_NoNumber_NoNote : PySem.W.subIn K (.ref C_NoNumber) (.ref C_NoNote) = some false)
    (a0 : PySem.W.nsIn K mainGlobals "asked_many" = some (some (.ref f0)))
    (l0 : K.lookup f0 = some ⟨oc0, od0, .func (PySem.W.fnOf "asked_many" "asked_many" (defArgs s_asked_many) (defBody s_asked_many) (defScope s_asked_many) .none kV0 dc0 pm0 an0 cd0 ct0), sl0⟩)
    (c0 : PySem.W.codeIn K cd0 "asked_many" = true)
    (k0 : PySem.W.keepIn K (.ref f0) = true)
    (a1 : PySem.W.nsIn K mainGlobals "parted" = some (some (.ref f1)))
    (l1 : K.lookup f1 = some ⟨oc1, od1, .func (PySem.W.fnOf "parted" "parted" (defArgs s_parted) (defBody s_parted) (defScope s_parted) .none kV1 dc1 pm1 an1 cd1 ct1), sl1⟩)
    (c1 : PySem.W.codeIn K cd1 "parted" = true)
    (k1 : PySem.W.keepIn K (.ref f1) = true)
    (a2 : PySem.W.nsIn K mainGlobals "picks" = some (some (.ref f2)))
    (l2 : K.lookup f2 = some ⟨oc2, od2, .func (PySem.W.fnOf "picks" "picks" (defArgs s_picks) (defBody s_picks) (defScope s_picks) .none kV2 dc2 pm2 an2 cd2 ct2), sl2⟩)
    (c2 : PySem.W.codeIn K cd2 "picks" = true)
    (k2 : PySem.W.keepIn K (.ref f2) = true)
    (a3 : PySem.W.nsIn K mainGlobals "endings" = some (some (.ref f3)))
    (l3 : K.lookup f3 = some ⟨oc3, od3, .func (PySem.W.fnOf "endings" "endings" (defArgs s_endings) (defBody s_endings) (defScope s_endings) .none kV3 dc3 pm3 an3 cd3 ct3), sl3⟩)
    (c3 : PySem.W.codeIn K cd3 "endings" = true)
    (k3 : PySem.W.keepIn K (.ref f3) = true)
    (a4 : PySem.W.nsIn K mainGlobals "how_many" = some (some (.ref f4)))
    (l4 : K.lookup f4 = some ⟨oc4, od4, .func (PySem.W.fnOf "how_many" "how_many" (defArgs s_how_many) (defBody s_how_many) (defScope s_how_many) .none kV4 dc4 pm4 an4 cd4 ct4), sl4⟩)
    (c4 : PySem.W.codeIn K cd4 "how_many" = true)
    (k4 : PySem.W.keepIn K (.ref f4) = true)
    (a5 : PySem.W.nsIn K mainGlobals "bottom_at" = some (some (.ref f5)))
    (l5 : K.lookup f5 = some ⟨oc5, od5, .func (PySem.W.fnOf "bottom_at" "bottom_at" (defArgs s_bottom_at) (defBody s_bottom_at) (defScope s_bottom_at) .none kV5 dc5 pm5 an5 cd5 ct5), sl5⟩)
    (c5 : PySem.W.codeIn K cd5 "bottom_at" = true)
    (k5 : PySem.W.keepIn K (.ref f5) = true)
    (a6 : PySem.W.nsIn K mainGlobals "bottom_of" = some (some (.ref f6)))
    (l6 : K.lookup f6 = some ⟨oc6, od6, .func (PySem.W.fnOf "bottom_of" "bottom_of" (defArgs s_bottom_of) (defBody s_bottom_of) (defScope s_bottom_of) .none kV6 dc6 pm6 an6 cd6 ct6), sl6⟩)
    (c6 : PySem.W.codeIn K cd6 "bottom_of" = true)
    (k6 : PySem.W.keepIn K (.ref f6) = true)
    (a7 : PySem.W.nsIn K mainGlobals "set_of" = some (some (.ref f7)))
    (l7 : K.lookup f7 = some ⟨oc7, od7, .func (PySem.W.fnOf "set_of" "set_of" (defArgs s_set_of) (defBody s_set_of) (defScope s_set_of) .none kV7 dc7 pm7 an7 cd7 ct7), sl7⟩)
    (c7 : PySem.W.codeIn K cd7 "set_of" = true)
    (k7 : PySem.W.keepIn K (.ref f7) = true)
    (a8 : PySem.W.nsIn K mainGlobals "middle" = some (some (.ref f8)))
    (l8 : K.lookup f8 = some ⟨oc8, od8, .func (PySem.W.fnOf "middle" "middle" (defArgs s_middle) (defBody s_middle) (defScope s_middle) .none kV8 dc8 pm8 an8 cd8 ct8), sl8⟩)
    (c8 : PySem.W.codeIn K cd8 "middle" = true)
    (k8 : PySem.W.keepIn K (.ref f8) = true)
    (a9 : PySem.W.nsIn K mainGlobals "_law_cell_at" = some (some (.ref f9)))
    (l9 : K.lookup f9 = some ⟨oc9, od9, .func (PySem.W.fnOf "_law_cell_at" "_law_cell_at" (defArgs s__law_cell_at) (defBody s__law_cell_at) (defScope s__law_cell_at) .none kV9 dc9 pm9 an9 cd9 ct9), sl9⟩)
    (c9 : PySem.W.codeIn K cd9 "_law_cell_at" = true)
    (k9 : PySem.W.keepIn K (.ref f9) = true)
    (a10 : PySem.W.nsIn K mainGlobals "_law_word_of" = some (some (.ref f10)))
    (l10 : K.lookup f10 = some ⟨oc10, od10, .func (PySem.W.fnOf "_law_word_of" "_law_word_of" (defArgs s__law_word_of) (defBody s__law_word_of) (defScope s__law_word_of) .none kV10 dc10 pm10 an10 cd10 ct10), sl10⟩)
    (c10 : PySem.W.codeIn K cd10 "_law_word_of" = true)
    (k10 : PySem.W.keepIn K (.ref f10) = true)
    (a11 : PySem.W.nsIn K mainGlobals "_law_picks" = some (some (.ref f11)))
    (l11 : K.lookup f11 = some ⟨oc11, od11, .func (PySem.W.fnOf "_law_picks" "_law_picks" (defArgs s__law_picks) (defBody s__law_picks) (defScope s__law_picks) .none kV11 dc11 pm11 an11 cd11 ct11), sl11⟩)
    (c11 : PySem.W.codeIn K cd11 "_law_picks" = true)
    (k11 : PySem.W.keepIn K (.ref f11) = true)
    (a12 : PySem.W.nsIn K mainGlobals "_law_tried" = some (some (.ref f12)))
    (l12 : K.lookup f12 = some ⟨oc12, od12, .func (PySem.W.fnOf "_law_tried" "_law_tried" (defArgs s__law_tried) (defBody s__law_tried) (defScope s__law_tried) .none kV12 dc12 pm12 an12 cd12 ct12), sl12⟩)
    (c12 : PySem.W.codeIn K cd12 "_law_tried" = true)
    (k12 : PySem.W.keepIn K (.ref f12) = true)
    (a13 : PySem.W.nsIn K mainGlobals "law" = some (some (.ref f13)))
    (l13 : K.lookup f13 = some ⟨oc13, od13, .func (PySem.W.fnOf "law" "law" (defArgs s_law) (defBody s_law) (defScope s_law) .none kV13 dc13 pm13 an13 cd13 ct13), sl13⟩)
    (c13 : PySem.W.codeIn K cd13 "law" = true)
    (k13 : PySem.W.keepIn K (.ref f13) = true)
    (zlen : PySem.W.nsIn K mainGlobals "len" = some none)
    (zrange : PySem.W.nsIn K mainGlobals "range" = some none)
    (zsorted : PySem.W.nsIn K mainGlobals "sorted" = some none)
    (zisinstance : PySem.W.nsIn K mainGlobals "isinstance" = some none)
    (zint : PySem.W.nsIn K mainGlobals "int" = some none)
    (zbool : PySem.W.nsIn K mainGlobals "bool" = some none)
    (zlist : PySem.W.nsIn K mainGlobals "list" = some none)
    (ztuple : PySem.W.nsIn K mainGlobals "tuple" = some none)
    (zstr : PySem.W.nsIn K mainGlobals "str" = some none)
    (zsum : PySem.W.nsIn K mainGlobals "sum" = some none)
    (zall : PySem.W.nsIn K mainGlobals "all" = some none)
    (zmin : PySem.W.nsIn K mainGlobals "min" = some none)
    (zmax : PySem.W.nsIn K mainGlobals "max" = some none)
    (zValueError : PySem.W.nsIn K mainGlobals "ValueError" = some none)
    (zMOST : PySem.W.nsIn K mainGlobals "MOST" = some (some (.int 40 tM))) :
    ∃ fd : FuncData, (∀ (s : Shared) (v : Value), BindsTo s fd ⟨[v], []⟩ [("script", v)]) ∧ ∀ base : Heap, K.In base → base.Ns mainGlobals mg → FnOk l.prog w K mg base CX0 7 fa fd ["script"] (spLaw K) := by
  have e := hfa.symm.trans (PySem.W.mg_of X G a13)
  cases e
  have B : Bt mg tM := ⟨PySem.W.mg_none_of X G zlen, PySem.W.mg_none_of X G zrange, PySem.W.mg_none_of X G zsorted, PySem.W.mg_none_of X G zisinstance, PySem.W.mg_none_of X G zint, PySem.W.mg_none_of X G zbool, PySem.W.mg_none_of X G zlist, PySem.W.mg_none_of X G ztuple, PySem.W.mg_none_of X G zstr, PySem.W.mg_none_of X G zsum, PySem.W.mg_none_of X G zall, PySem.W.mg_none_of X G zmin, PySem.W.mg_none_of X G zmax, PySem.W.mg_none_of X G zValueError, PySem.W.mg_of X G zMOST⟩
  have X_NoMany : XT K mg "NoMany" C_NoMany := ⟨PySem.W.mg_of X G xn0, xx0, xk0, xb0, xt0⟩
  have X_NoNumber : XT K mg "NoNumber" C_NoNumber := ⟨PySem.W.mg_of X G xn1, xx1, xk1, xb1, xt1⟩
  have Z_ChainError : XC K mg "ChainError" C_ChainError := ⟨PySem.W.mg_of X G zn_ChainError, zd_ChainError, zt_ChainError, zb_ChainError⟩
  have Z_NoMany : XC K mg "NoMany" C_NoMany := ⟨PySem.W.mg_of X G zn_NoMany, zd_NoMany, zt_NoMany, zb_NoMany⟩
  have Z_NoSet : XC K mg "NoSet" C_NoSet := ⟨PySem.W.mg_of X G zn_NoSet, zd_NoSet, zt_NoSet, zb_NoSet⟩
  have Z_NoNumber : XC K mg "NoNumber" C_NoNumber := ⟨PySem.W.mg_of X G zn_NoNumber, zd_NoNumber, zt_NoNumber, zb_NoNumber⟩
  have Z_NoNote : XC K mg "NoNote" C_NoNote := ⟨PySem.W.mg_of X G zn_NoNote, zd_NoNote, zt_NoNote, zb_NoNote⟩
  have Y_NoMany : XQ K C_NoMany C_ChainError C_NoMany C_NoSet C_NoNumber C_NoNote true false false false := ⟨⟨yg_NoMany, yk_NoMany, zb_NoMany, zd_NoMany, ya_NoMany, yn, yt, ym_NoMany⟩, yv_NoMany, ys_NoMany_NoMany, ys_NoMany_ChainError, ys_NoMany_NoMany, ys_NoMany_NoSet, ys_NoMany_NoNumber, ys_NoMany_NoNote⟩
  have Y_NoNumber : XQ K C_NoNumber C_ChainError C_NoMany C_NoSet C_NoNumber C_NoNote false false true false := ⟨⟨yg_NoNumber, yk_NoNumber, zb_NoNumber, zd_NoNumber, ya_NoNumber, yn, yt, ym_NoNumber⟩, yv_NoNumber, ys_NoNumber_NoNumber, ys_NoNumber_ChainError, ys_NoNumber_NoMany, ys_NoNumber_NoSet, ys_NoNumber_NoNumber, ys_NoNumber_NoNote⟩
  have A_asked_many : At K mg "asked_many" s_asked_many := ⟨f0, _, fun_mk (st := s_asked_many) l0 c0 k0, PySem.W.mg_of X G a0⟩
  have A_parted : At K mg "parted" s_parted := ⟨f1, _, fun_mk (st := s_parted) l1 c1 k1, PySem.W.mg_of X G a1⟩
  have A_picks : At K mg "picks" s_picks := ⟨f2, _, fun_mk (st := s_picks) l2 c2 k2, PySem.W.mg_of X G a2⟩
  have A_endings : At K mg "endings" s_endings := ⟨f3, _, fun_mk (st := s_endings) l3 c3 k3, PySem.W.mg_of X G a3⟩
  have A_how_many : At K mg "how_many" s_how_many := ⟨f4, _, fun_mk (st := s_how_many) l4 c4 k4, PySem.W.mg_of X G a4⟩
  have A_bottom_at : At K mg "bottom_at" s_bottom_at := ⟨f5, _, fun_mk (st := s_bottom_at) l5 c5 k5, PySem.W.mg_of X G a5⟩
  have A_bottom_of : At K mg "bottom_of" s_bottom_of := ⟨f6, _, fun_mk (st := s_bottom_of) l6 c6 k6, PySem.W.mg_of X G a6⟩
  have A_set_of : At K mg "set_of" s_set_of := ⟨f7, _, fun_mk (st := s_set_of) l7 c7 k7, PySem.W.mg_of X G a7⟩
  have A_middle : At K mg "middle" s_middle := ⟨f8, _, fun_mk (st := s_middle) l8 c8 k8, PySem.W.mg_of X G a8⟩
  have A__law_cell_at : At K mg "_law_cell_at" s__law_cell_at := ⟨f9, _, fun_mk (st := s__law_cell_at) l9 c9 k9, PySem.W.mg_of X G a9⟩
  have A__law_word_of : At K mg "_law_word_of" s__law_word_of := ⟨f10, _, fun_mk (st := s__law_word_of) l10 c10 k10, PySem.W.mg_of X G a10⟩
  have A__law_picks : At K mg "_law_picks" s__law_picks := ⟨f11, _, fun_mk (st := s__law_picks) l11 c11 k11, PySem.W.mg_of X G a11⟩
  have A__law_tried : At K mg "_law_tried" s__law_tried := ⟨f12, _, fun_mk (st := s__law_tried) l12 c12 k12, PySem.W.mg_of X G a12⟩
  refine ⟨PySem.W.fnOf "law" "law" (defArgs s_law) (defBody s_law) (defScope s_law) .none kV13 dc13 pm13 an13 cd13 ct13, fun s v => .of_eq rfl, fun base _ _ => ?_⟩
  have D_asked_many := ok_asked_many (P := l.prog) (w := w) (base := base) A_asked_many B X_NoMany
  have D_parted := ok_parted (P := l.prog) (w := w) (base := base) A_parted B
  have D_picks := ok_picks (P := l.prog) (w := w) (base := base) A_picks B
  have D_endings := ok_endings (P := l.prog) (w := w) (base := base) A_endings B D_picks
  have D_how_many := ok_how_many (P := l.prog) (w := w) (base := base) A_how_many B D_asked_many D_picks
  have D_bottom_at := ok_bottom_at (P := l.prog) (w := w) (base := base) A_bottom_at B D_endings
  have D_bottom_of := ok_bottom_of (P := l.prog) (w := w) (base := base) A_bottom_of B X_NoNumber D_asked_many D_bottom_at D_endings D_how_many
  have D_set_of := ok_set_of (P := l.prog) (w := w) (base := base) A_set_of B X_NoNumber D_bottom_of D_parted
  have D_middle := ok_middle (P := l.prog) (w := w) (base := base) A_middle B D_asked_many D_how_many D_bottom_of D_parted
  have D__law_cell_at := ok__law_cell_at (P := l.prog) (w := w) (base := base) A__law_cell_at B
  have D__law_word_of := ok__law_word_of (C_ChainError := C_ChainError) (P := l.prog) (w := w) (base := base) A__law_word_of B Z_NoMany Z_NoSet Z_NoNumber Z_NoNote
  have D__law_picks := ok__law_picks (P := l.prog) (w := w) (base := base) A__law_picks B
  have D__law_tried := ok__law_tried (P := l.prog) (w := w) (base := base) A__law_tried B Z_ChainError Y_NoMany Y_NoNumber D_how_many D__law_word_of D_bottom_of D_set_of D_middle
  exact ok_law (fun_mk (st := s_law) l13 c13 k13) B D__law_picks D__law_cell_at D__law_tried D_bottom_of
end SC
open PySem PySem.W PyProof.Rows
set_option maxHeartbeats 0 in
theorem PySem.Challenge.cw_setchains_k17_refused_numbers_holds : PySem.Challenge.rw_setchains_k17_refused_numbers.Holds := by
  w_on; o_law; k_head; (case hw => w_witness2)
  k_fill
  refine L2.walk_of (l := PySem.Challenge.rw_setchains_k17_refused_numbers) (n := 63) (k := 7) (x := "script") (CX := fun _ => L2.CX0) (sp := fun w => SC.spLaw _) rfl (by decide) rfl ⟨rfl, by decide, by decide⟩ (fun w h Y => PySem.W.kIn_of Y) ?F (fun _ _ a ns hl _ hS => ⟨a, ns, rfl, hS, hl, fun _ => rfl⟩) (fun _ _ _ _ _ h => h)
  case F =>
    intro w mg fa h KX G hmg
    refine' SC.all_mk KX G hmg ?xn0 ?xx0 ?xk0 ?xb0 ?xt0 ?xn1 ?xx1 ?xk1 ?xb1 ?xt1 ?zn_ChainError ?zd_ChainError ?zt_ChainError ?zb_ChainError ?zn_NoMany ?zd_NoMany ?zt_NoMany ?zb_NoMany ?zn_NoSet ?zd_NoSet ?zt_NoSet ?zb_NoSet ?zn_NoNumber ?zd_NoNumber ?zt_NoNumber ?zb_NoNumber ?zn_NoNote ?zd_NoNote ?zt_NoNote ?zb_NoNote ?yn ?yt ?yg_NoMany ?yk_NoMany ?ya_NoMany ?ym_NoMany ?yv_NoMany ?ys_NoMany_ChainError ?ys_NoMany_NoMany ?ys_NoMany_NoSet ?ys_NoMany_NoNumber ?ys_NoMany_NoNote ?yg_NoNumber ?yk_NoNumber ?ya_NoNumber ?ym_NoNumber ?yv_NoNumber ?ys_NoNumber_ChainError ?ys_NoNumber_NoMany ?ys_NoNumber_NoSet ?ys_NoNumber_NoNumber ?ys_NoNumber_NoNote ?a0 ?l0 ?c0 ?k0 ?a1 ?l1 ?c1 ?k1 ?a2 ?l2 ?c2 ?k2 ?a3 ?l3 ?c3 ?k3 ?a4 ?l4 ?c4 ?k4 ?a5 ?l5 ?c5 ?k5 ?a6 ?l6 ?c6 ?k6 ?a7 ?l7 ?c7 ?k7 ?a8 ?l8 ?c8 ?k8 ?a9 ?l9 ?c9 ?k9 ?a10 ?l10 ?c10 ?k10 ?a11 ?l11 ?c11 ?k11 ?a12 ?l12 ?c12 ?k12 ?a13 ?l13 ?c13 ?k13 ?zlen ?zrange ?zsorted ?zisinstance ?zint ?zbool ?zlist ?ztuple ?zstr ?zsum ?zall ?zmin ?zmax ?zValueError ?zMOST
    (case xn0 => k_is)
    (case xx0 => k_exc)
    (case xk0 => k_is)
    (case xb0 => k_is)
    (case xt0 => k_is)
    (case xn1 => k_is)
    (case xx1 => k_exc)
    (case xk1 => k_is)
    (case xb1 => k_is)
    (case xt1 => k_is)
    (case zn_ChainError => k_is)
    (case zd_ChainError => k_is)
    (case zt_ChainError => k_is)
    (case zb_ChainError => k_is)
    (case zn_NoMany => k_is)
    (case zd_NoMany => k_is)
    (case zt_NoMany => k_is)
    (case zb_NoMany => k_is)
    (case zn_NoSet => k_is)
    (case zd_NoSet => k_is)
    (case zt_NoSet => k_is)
    (case zb_NoSet => k_is)
    (case zn_NoNumber => k_is)
    (case zd_NoNumber => k_is)
    (case zt_NoNumber => k_is)
    (case zb_NoNumber => k_is)
    (case zn_NoNote => k_is)
    (case zd_NoNote => k_is)
    (case zt_NoNote => k_is)
    (case zb_NoNote => k_is)
    (case yn => k_is)
    (case yt => k_is)
    (case yg_NoMany => k_is)
    (case yk_NoMany => k_is)
    (case ya_NoMany => k_is)
    (case ym_NoMany => k_is)
    (case yv_NoMany => k_is)
    (case ys_NoMany_ChainError => k_is)
    (case ys_NoMany_NoMany => k_is)
    (case ys_NoMany_NoSet => k_is)
    (case ys_NoMany_NoNumber => k_is)
    (case ys_NoMany_NoNote => k_is)
    (case yg_NoNumber => k_is)
    (case yk_NoNumber => k_is)
    (case ya_NoNumber => k_is)
    (case ym_NoNumber => k_is)
    (case yv_NoNumber => k_is)
    (case ys_NoNumber_ChainError => k_is)
    (case ys_NoNumber_NoMany => k_is)
    (case ys_NoNumber_NoSet => k_is)
    (case ys_NoNumber_NoNumber => k_is)
    (case ys_NoNumber_NoNote => k_is)
    (case a0 => k_is)
    (case l0 => k_is)
    (case c0 => k_is)
    (case k0 => k_is)
    (case a1 => k_is)
    (case l1 => k_is)
    (case c1 => k_is)
    (case k1 => k_is)
    (case a2 => k_is)
    (case l2 => k_is)
    (case c2 => k_is)
    (case k2 => k_is)
    (case a3 => k_is)
    (case l3 => k_is)
    (case c3 => k_is)
    (case k3 => k_is)
    (case a4 => k_is)
    (case l4 => k_is)
    (case c4 => k_is)
    (case k4 => k_is)
    (case a5 => k_is)
    (case l5 => k_is)
    (case c5 => k_is)
    (case k5 => k_is)
    (case a6 => k_is)
    (case l6 => k_is)
    (case c6 => k_is)
    (case k6 => k_is)
    (case a7 => k_is)
    (case l7 => k_is)
    (case c7 => k_is)
    (case k7 => k_is)
    (case a8 => k_is)
    (case l8 => k_is)
    (case c8 => k_is)
    (case k8 => k_is)
    (case a9 => k_is)
    (case l9 => k_is)
    (case c9 => k_is)
    (case k9 => k_is)
    (case a10 => k_is)
    (case l10 => k_is)
    (case c10 => k_is)
    (case k10 => k_is)
    (case a11 => k_is)
    (case l11 => k_is)
    (case c11 => k_is)
    (case k11 => k_is)
    (case a12 => k_is)
    (case l12 => k_is)
    (case c12 => k_is)
    (case k12 => k_is)
    (case a13 => k_is)
    (case l13 => k_is)
    (case c13 => k_is)
    (case k13 => k_is)
    (case zlen => k_is)
    (case zrange => k_is)
    (case zsorted => k_is)
    (case zisinstance => k_is)
    (case zint => k_is)
    (case zbool => k_is)
    (case zlist => k_is)
    (case ztuple => k_is)
    (case zstr => k_is)
    (case zsum => k_is)
    (case zall => k_is)
    (case zmin => k_is)
    (case zmax => k_is)
    (case zValueError => k_is)
    (case zMOST => k_is)
